/- Rows of texts that the call owns: append of texts. -/
import Derived.Test.YtegcpedgdldodaaStrs
import Derived.Test.YtegcpedgdldodaaMemLaws
import Derived.Maps.AppendAt
namespace Go.Proofs.Ytegcpedgdldodaa
set_option linter.unusedVariables false
set_option linter.unusedSimpArgs false
open Go.RowKit Go.ChangeShapes

def tcells (ls : List (List UInt8)) : List Value := ls.map fun l => Value.string ⟨l.toArray⟩
/-- the call owns a row of these texts. -/
def OwnS (w : World) (base : Nat) (v : Value) (ls : List (List UInt8)) : Prop := w.ownsRow base 9 1 v ls.length (tcells ls)

theorem tcells_length (ls : List (List UInt8)) : (tcells ls).length = ls.length := by simp [tcells]
theorem tcells_append (a b : List (List UInt8)) : tcells (a ++ b) = tcells a ++ tcells b := by simp [tcells]
theorem OwnS.nil (w : World) (base : Nat) : OwnS w base (.slice none 0 0) [] := World.ownsRow_nil w base _ 1
theorem OwnS.kept {w w' : World} {base : Nat} {v : Value} {ls : List (List UInt8)} (h : OwnS w base v ls) (he : ∀ g, v.ownBlock = some g → w'.heap[g]? = w.heap[g]?) : OwnS w' base v ls := by
  refine ⟨h.1, ?_⟩
  rcases h.2 with hn | ⟨g, c, cur, rfl, hb, hg, rest⟩
  · exact .inl hn
  · exact .inr ⟨g, c, cur, rfl, hb, (he g rfl).trans hg, rest⟩
theorem OwnS.lt {w : World} {base : Nat} {v : Value} {ls : List (List UInt8)} (h : OwnS w base v ls) : ∀ g, v.ownBlock = some g → base ≤ g ∧ g < w.heap.size := by
  intro k hk
  rcases h.2 with ⟨rfl, _⟩ | ⟨g, c, cur, rfl, hb, hg, _⟩
  · simp [Value.ownBlock] at hk
  · simp [Value.ownBlock] at hk
    subst hk
    exact ⟨hb, (Array.getElem?_eq_some_iff.1 hg).1⟩
theorem OwnS.below {w w' : World} {base : Nat} {v : Value} {ls : List (List UInt8)} (h : OwnS w base v ls) (hb : Below w.heap.size w w') : OwnS w' base v ls :=
  h.kept (fun g hg => hb.block g (h.lt g hg).2)
theorem OwnS.form {w : World} {base : Nat} {v : Value} {ls : List (List UInt8)} (h : OwnS w base v ls) : ∃ a c, v = .slice a ls.length c := by
  rcases h.2 with ⟨rfl, h0⟩ | ⟨g, c, cur, rfl, _⟩
  · exact ⟨none, 0, by rw [h0]⟩
  · exact ⟨_, _, rfl⟩
theorem OwnS.isStrs {w : World} {base : Nat} {v : Value} {ls : List (List UInt8)} (h : OwnS w base v ls) : IsStrs w v ls := by
  rcases h.2 with ⟨rfl, h0⟩ | ⟨g, c, cur, rfl, hb, hg, hn, hcm, hcs, htake⟩
  · exact .inl ⟨List.eq_nil_of_length_eq_zero h0, none, 0, rfl, Nat.zero_le _⟩
  · rcases Nat.eq_zero_or_pos ls.length with h0 | h0
    · obtain rfl := List.eq_nil_of_length_eq_zero h0
      exact .inl ⟨rfl, _, c, rfl, hcm⟩
    · refine .inr ⟨g, 0, c, rfl, h0, hn, hcm, (Array.getElem?_eq_some_iff.1 hg).1, fun i hi => ?_⟩
      have := World.ownsRow.cells h (g := g) rfl i (.string ⟨(ls[i]).toArray⟩) (by simp [tcells, List.getElem?_eq_getElem hi])
      have hadd' : (⟨g, 0, none⟩ : Addr).add i = ⟨g, 0 + i, none⟩ := by unfold Addr.add; split <;> simp_all
      rw [hadd'] at this
      exact this

theorem run_append_none {P : Program} (w : World) (t ty e : TypeId) (i : TypeInfo) (ht : P.underlying t = some (.slice e)) (hi : P.info? e = some i) (p : Addr) (n c : Nat) (hn : n ≤ c) (a : Option Addr) (cap : Nat) :
    (Builtin.append_ #[t, t] ty #[.slice (some p) n c, .slice a 0 cap]).run P w = .ok (.slice (some p) n c) w := by
  cases a with
  | none => simp [Builtin.append_, run_underlying ht, sizeOf, typeInfo, hi, Builtin.lenOf, Builtin.firstCells, loadCells, loadCellsFrom, hn, storeCells]
  | some a => simp [Builtin.append_, run_underlying ht, sizeOf, typeInfo, hi, Builtin.lenOf, Builtin.firstCells, loadCells, loadCellsFrom, hn, storeCells]

theorem run_append_strs {P : Program} (w : World) (t ty : TypeId) (i : TypeInfo) (ht : P.underlying t = some (.slice 9)) (hi : P.info? 9 = some i) (hz : i.zero = some (.string ⟨#[]⟩)) (hs : i.size = 1) (hby : i.bytes = 16)
    (base : Nat) (hbase : base ≤ w.heap.size) (v : Value) (ls : List (List UInt8)) (hv : OwnS w base v ls) (x : Value) (ms : List (List UInt8)) (hx : IsStrs w x ms) (hl : ls.length + ms.length ≤ 1000000000) :
    ∃ v' w', (Builtin.append_ #[t, t] ty #[v, x]).run P w = .ok v' w' ∧ OwnS w' base v' (ls ++ ms) ∧ w.grownBy w' v.ownBlock := by
  rcases hx with ⟨rfl, a, cap, rfl, hm⟩ | ⟨b, off, cap, rfl, h0, h1, h2, h3, h4⟩
  · rcases hv.2 with ⟨rfl, h0⟩ | ⟨g, c, cur, rfl, hb, hg, hn, rest⟩
    · obtain rfl := List.eq_nil_of_length_eq_zero h0
      exact ⟨_, w, append_nil_nil w t ty _ i ht hi a cap, OwnS.nil w base, rfl, rfl, rfl, Nat.le_refl _, fun _ _ _ => rfl⟩
    · exact ⟨_, w, run_append_none w t ty _ i ht hi _ _ _ hn a cap, by rw [List.append_nil]; exact hv, rfl, rfl, rfl, Nat.le_refl _, fun _ _ _ => rfl⟩
  · have hadd : ∀ i, (⟨b, off, none⟩ : Addr).add i = ⟨b, off + i, none⟩ := fun i => by unfold Addr.add; split <;> simp_all
    obtain ⟨v', w', hr, hown, hg, _⟩ := run_append_own (P := P) w base t ty 9 i (.string ⟨#[]⟩) 1 16 ht hi hz hs hby rfl (by omega)
      v ls.length (tcells ls) hv ⟨b, off, none⟩ ms.length cap (tcells ms) (by rw [tcells_length]; omega)
      (fun j u hj => by
        by_cases hjl : j < ms.length
        · simp only [tcells, List.getElem?_map, List.getElem?_eq_getElem hjl, Option.map_some, Option.some.injEq] at hj
          subst hj
          rw [hadd]; exact h4 j hjl
        · simp [tcells, List.getElem?_eq_none (Nat.le_of_not_lt hjl)] at hj)
      (fun u hu => by
        obtain ⟨l, _, rfl⟩ := List.mem_map.1 hu
        rfl)
      (by unfold maxLen; omega) (by omega) hbase
    refine ⟨v', w', hr, ?_, hg⟩
    unfold OwnS
    rw [List.length_append, tcells_append]
    exact hown

/-- append(row, texts..). -/
theorem wpList_append_strs {w : World} {ops : Array Oper} {rest : List Oper} {o : Oper} {a : Act} {Q : Exit → Act → World → Prop} (hgd : o.guard = none) (s x : Operand)
    (ho : o.op = .call { callee := .builtin .append, args := #[s, x], argTypes := #[34, 34] }) (base : Nat) (hbase : base ≤ w.heap.size) (v y : Value) (ls ms : List (List UInt8)) (hs : a.eval s = v) (hv : OwnS w base v ls)
    (hx : a.eval x = y) (hy : IsStrs w y ms) (hl : ls.length + ms.length ≤ 1000000000)
    (h : ∀ v' w', OwnS w' base v' (ls ++ ms) → w.heap.size ≤ w'.heap.size → (∀ B w0, Below B w0 w → B ≤ base → Below B w0 w') → wpList Try.prog ops Q rest (a.put o.dst v') w') : wpList Try.prog ops Q (o :: rest) a w := by
  obtain ⟨i0, hi, hz0, hz1, hz2⟩ := info_parts info_str
  obtain ⟨v', w', hr, h2, h3⟩ := run_append_strs (P := Try.prog) w 34 o.type i0 Try.underlying34 hi hz0 hz1 hz2 base hbase v ls hv y ms hy hl
  refine wpList_val hgd (w' := w') ?_ (h v' w' h2 h3.size (fun B w0 hb hB => hb.grown h3 (Nat.le_trans hB hbase) (fun k hk => Nat.le_trans hB (hv.lt k hk).1)))
  unfold execOp
  simp only [ho, resolve, invoke, builtin, Sem.run_bind, Sem.run_pure, Result.andThen_ok, List.map_toArray, List.map_cons, List.map_nil, hs, hx, hr]
end Go.Proofs.Ytegcpedgdldodaa

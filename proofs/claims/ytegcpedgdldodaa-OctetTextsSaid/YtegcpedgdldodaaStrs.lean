/- Slices of texts that came in, or that the call made: what a walk is told of them; and append([]string(nil), l...). -/
import Derived.Test.YtegcpedgdldodaaProg
import Derived.WalkKit
import Derived.SliceStrings
import Derived.Lib.Hide
import Derived.KernelRfl
namespace Go.Proofs.Ytegcpedgdldodaa
set_option linter.unusedVariables false
set_option linter.unusedSimpArgs false
open Go.RowKit Go.ChangeShapes

/-- The value leads to a row of these texts: it is empty, or its cells stand in one block. -/
def IsStrs (w : World) (v : Value) (ls : List (List UInt8)) : Prop :=
  (ls = [] ∧ ∃ a cap, v = .slice a 0 cap ∧ cap ≤ maxLen) ∨
  (∃ b off cap, v = .slice (some ⟨b, off, none⟩) ls.length cap ∧ 0 < ls.length ∧ ls.length ≤ cap ∧ cap ≤ maxLen ∧ b < w.heap.size ∧
    ∀ i (h : i < ls.length), w.cell? ⟨b, off + i, none⟩ = some (.string ⟨(ls[i]).toArray⟩))

theorem IsStrs.length_le {w : World} {v : Value} {ls : List (List UInt8)} (h : IsStrs w v ls) : ls.length ≤ maxLen := by
  rcases h with ⟨rfl, _⟩ | ⟨b, off, cap, _, _, h1, h2, _⟩
  · simp
  · omega
theorem IsStrs.later {w w' : World} {v : Value} {ls : List (List UInt8)} (h : IsStrs w v ls) (hb : Below w.heap.size w w') : IsStrs w' v ls := by
  rcases h with h | ⟨b, off, cap, h1, h2, h3, h4, h5, h6⟩
  · exact .inl h
  · exact .inr ⟨b, off, cap, h1, h2, h3, h4, Nat.lt_of_lt_of_le h5 hb.size, fun i hi => by rw [hb.cell (p := ⟨b, off + i, none⟩) h5]; exact h6 i hi⟩
theorem strOf_bytes (s : ByteArray) : (⟨s.data.toList.toArray⟩ : ByteArray) = s := rfl

theorem isStrs_of {H : Type} {enc : TypeId × Value → H} {P : Program} {w : World} {t e : TypeId} {fuel : Nat} {a : Option Addr} {len cap : Nat} {spare : Nat → Bool} {x : DataW H × List MemPlace}
    (ht : P.underlying t = some (.slice e)) (he : P.underlying e = some .string) (hc : P.cellsOf e = 1)
    (h : DataW.trod enc P w 0 spare true fuel t (Value.slice a len cap).cells.toList = some x) : ∃ ls, IsStrs w (.slice a len cap) ls := by
  rcases open_strings ht he hc h with ⟨hcs, _⟩ | ⟨ad, l, c, ss, hcs, _, hl, hm, hz, _, hcell, _⟩
  · simp [Value.cells] at hcs
    obtain ⟨rfl, rfl, rfl⟩ := hcs
    exact ⟨[], .inl ⟨rfl, none, 0, rfl, Nat.zero_le _⟩⟩
  · simp [Value.cells] at hcs
    obtain ⟨rfl, rfl, rfl⟩ := hcs
    have hls : len ≤ ss.length := by rw [hz]; split <;> omega
    by_cases h0 : len = 0
    · subst h0
      exact ⟨[], .inl ⟨rfl, some ad, cap, rfl, hm⟩⟩
    · obtain ⟨b, off, sp⟩ := ad
      have hc0 := hcell 0 (by omega)
      have hsp : sp = none := by
        cases sp with
        | none => rfl
        | some q =>
          exfalso
          unfold Addr.add at hc0
          simp only [World.cell?] at hc0
          split at hc0 <;> simp_all
      subst hsp
      have hadd : ∀ i, (⟨b, off, none⟩ : Addr).add i = ⟨b, off + i, none⟩ := fun i => by unfold Addr.add; split <;> simp_all
      refine ⟨(ss.take len).map (fun s => s.data.toList), .inr ⟨b, off, cap, by simp [Nat.min_eq_left hls], by simp; omega, by simp; omega, hm, ?_, fun i hi => ?_⟩⟩
      · have := World.block_lt_of_cell? w _ hc0
        rw [hadd] at this
        exact this
      · simp only [List.length_map, List.length_take] at hi
        have := hcell i (by omega)
        rw [hadd] at this
        rw [this]
        simp only [List.getElem_map, List.getElem_take]
        rw [List.getD_eq_getElem?_getD, List.getElem?_eq_getElem (by omega), Option.getD_some, strOf_bytes]

theorem info_str : (Try.prog.info? 9).map (fun i => (i.zero, i.size, i.bytes)) = some (some (.string ⟨#[]⟩), 1, 16) := by kernel_rfl

theorem append_nil_nil {P : Program} (w : World) (t ty e : TypeId) (i : TypeInfo) (ht : P.underlying t = some (.slice e)) (hi : P.info? e = some i) (a : Option Addr) (cap : Nat) :
    (Builtin.append_ #[t, t] ty #[.slice none 0 0, .slice a 0 cap]).run P w = .ok (.slice none 0 0) w := by
  cases a with
  | none => simp [Builtin.append_, run_underlying ht, sizeOf, typeInfo, hi, Builtin.lenOf, Builtin.firstCells, loadCells, loadCellsFrom]
  | some a => simp [Builtin.append_, run_underlying ht, sizeOf, typeInfo, hi, Builtin.lenOf, Builtin.firstCells, loadCells, loadCellsFrom]

theorem run_append_copy {P : Program} (w : World) (t ty e : TypeId) (i : TypeInfo) (ht : P.underlying t = some (.slice e)) (hi : P.info? e = some i) (hz : i.zero = some (.string ⟨#[]⟩)) (hs : i.size = 1) (hby : i.bytes = 16)
    (v : Value) (ls : List (List UInt8)) (hv : IsStrs w v ls) (hl : ls.length * 16 ≤ 140737488355328) :
    ∃ v' w', (Builtin.append_ #[t, t] ty #[.slice none 0 0, v]).run P w = .ok v' w' ∧ IsStrs w' v' ls ∧ Below w.heap.size w w' := by
  rcases hv with ⟨rfl, a, cap, rfl, hm⟩ | ⟨b, off, cap, rfl, h0, h1, h2, h3, h4⟩
  · exact ⟨_, _, append_nil_nil w t ty e i ht hi a cap, .inl ⟨rfl, none, 0, rfl, Nat.zero_le _⟩, Below.refl _ _⟩
  · have hadd : ∀ i, (⟨b, off, none⟩ : Addr).add i = ⟨b, off + i, none⟩ := fun i => by unfold Addr.add; split <;> simp_all
    obtain ⟨v', w', hr, hown, hg, hnil⟩ := run_append_own (P := P) w w.heap.size t ty e i (.string ⟨#[]⟩) 1 16 ht hi hz hs hby rfl (by omega)
      (.slice none 0 0) 0 [] (World.ownsRow_nil w _ e 1) ⟨b, off, none⟩ ls.length cap (ls.map fun l => .string ⟨l.toArray⟩) (by simp)
      (fun j u hj => by
        rw [List.getElem?_map] at hj
        by_cases hjl : j < ls.length
        · rw [List.getElem?_eq_getElem hjl] at hj
          simp only [Option.map_some, Option.some.injEq] at hj
          subst hj
          rw [hadd]; exact h4 j hjl
        · rw [List.getElem?_eq_none (by omega)] at hj; simp at hj)
      (fun u hu => by
        obtain ⟨l, _, rfl⟩ := List.mem_map.1 hu
        rfl)
      (by omega) (by omega) (Nat.le_refl _)
    refine ⟨v', w', hr, ?_, ?_⟩
    · rw [Nat.zero_add, List.nil_append] at hown
      rcases hown.2 with ⟨_, h⟩ | ⟨g, c, cur, rfl, hbg, hgg, hn, hcm, hcs, htake⟩
      · omega
      · refine .inr ⟨g, 0, c, rfl, h0, hn, hcm, ?_, fun i hi => ?_⟩
        · exact (Array.getElem?_eq_some_iff.1 hgg).1
        · have := hown.cells (g := g) rfl i (.string ⟨(ls[i]).toArray⟩) (by simp [List.getElem?_eq_getElem hi])
          have hadd' : (⟨g, 0, none⟩ : Addr).add i = ⟨g, 0 + i, none⟩ := by unfold Addr.add; split <;> simp_all
          rw [hadd'] at this
          exact this
    · exact (Below.refl _ _).grown hg (Nat.le_refl _) (fun k hk => by simp [Value.ownBlock] at hk)

/-- append([]string(nil), l...): a row of the same texts, in new memory. -/
theorem wpList_append_copy {w : World} {ops : Array Oper} {rest : List Oper} {o : Oper} {a : Act} {Q : Exit → Act → World → Prop} (hgd : o.guard = none) (s x : Operand)
    (ho : o.op = .call { callee := .builtin .append, args := #[s, x], argTypes := #[34, 34] }) (hs : a.eval s = .slice none 0 0)
    (v : Value) (hx : a.eval x = v) (ls : List (List UInt8)) (hv : IsStrs w v ls) (hl : ls.length * 16 ≤ 140737488355328)
    (h : ∀ v' w', IsStrs w' v' ls → Below w.heap.size w w' → wpList Try.prog ops Q rest (a.put o.dst v') w') : wpList Try.prog ops Q (o :: rest) a w := by
  obtain ⟨i0, hi, hz0, hz1, hz2⟩ := info_parts info_str
  obtain ⟨v', w', hr, h1, h2⟩ := run_append_copy (P := Try.prog) w 34 o.type 9 i0 Try.underlying34 hi hz0 hz1 hz2 v ls hv hl
  refine wpList_plain hgd fun K hK => ?_
  unfold Oper.wp execOp
  simp only [ho, resolve, invoke, builtin, Sem.run_bind, Sem.run_pure, Result.andThen_ok, List.map_toArray, List.map_cons, List.map_nil, hs, hx, hr]
  exact hK _ _ (h v' w' h1 h2)
end Go.Proofs.Ytegcpedgdldodaa

/- append of bytes at a step of a region that draws its order. -/
import Derived.Test.YtjjdjdhkfmfchaaDoorBytes
import Derived.Deep.AppendLies
import Derived.Deep.RegionHeld3
namespace Go.Proofs.YtjjdjdhkfmfchaaDoor
set_option linter.unusedVariables false
set_option linter.unusedSimpArgs false
open Go.RowKit Sha

theorem step_append_bytes {w : World} {ops : Array Oper} {o : Oper} {a : Act} {K : Act → World → Prop} {Q : Exit → Act → World → Prop} {E : Prop} (hgd : o.guard = none) (s x : Operand)
    (ho : o.op = .call { callee := .builtin .append, args := #[s, x], argTypes := #[31, 31] }) (base : Nat) (v : Value) (l : List UInt8) (hs : a.eval s = v) (hown : OwnB w base v l)
    (g c m : Nat) (x' : List UInt8) (hx : a.eval x = .slice (some ⟨g, 0, none⟩) m c) (hm : x'.length = m) (hc : ∀ i (h : i < x'.length), w.cell? ⟨g, i, none⟩ = some (.int .u8 (by8 x'[i]))) (hsz : l.length + m ≤ 1099511627776) (hbase : base ≤ w.heap.size)
    (h : ∀ v' w', OwnB w' base v' (l ++ x') → w.heap.size ≤ w'.heap.size → (∀ B w0, Below B w0 w → B ≤ base → Below B w0 w') → K (a.put o.dst v') w') :
    if Region.wanted o (yielded ops a.tmps) = true then Oper.wp Tryd.prog o a w K Q else E := by
  have hw : Region.wanted o (yielded ops a.tmps) = true := by simp [Region.wanted, hgd]
  rw [if_pos hw]
  subst hm
  obtain ⟨i0, hi, hz0, hz1, hz2⟩ := info_parts info_u8
  obtain ⟨v', w', hr, h2, h3⟩ := run_append_ownM (P := Tryd.prog) w base 31 o.type 5 i0 (.int .u8 0) 1 Tryd.underlying31 hi hz0 hz1 hz2 rfl v l.length (bcells l) hown
    ⟨g, 0, none⟩ x'.length c (bcells x') (bcells_length _) (fun j u hj => by
      have hadd : (⟨g, 0, none⟩ : Addr).add j = ⟨g, j, none⟩ := by unfold Addr.add; split <;> simp_all
      rw [hadd]
      by_cases hjl : j < x'.length
      · have : u = .int .u8 (by8 x'[j]) := by
          simp [bcells, List.getElem?_eq_getElem hjl] at hj
          exact hj.symm
        rw [this]; exact hc j hjl
      · simp [bcells, List.getElem?_eq_none (Nat.le_of_not_lt hjl)] at hj) (bcells_one _) (by unfold maxLen; omega) (by omega) hbase
  unfold Oper.wp execOp
  simp only [ho, resolve, invoke, builtin, Sem.run_bind, Sem.run_pure, Result.andThen_ok, List.map_toArray, List.map_cons, List.map_nil, hs, hx, hr]
  refine h v' w' ?_ h3.size (fun B w0 hb hB => hb.grown h3 (Nat.le_trans hB hbase) (fun k hk => Nat.le_trans hB (OwnM.lt hown k hk).1))
  unfold OwnB
  rw [List.length_append]
  have : bcells (l ++ x') = bcells l ++ bcells x' := by simp [bcells]
  rw [this]
  exact h2
end Go.Proofs.YtjjdjdhkfmfchaaDoor

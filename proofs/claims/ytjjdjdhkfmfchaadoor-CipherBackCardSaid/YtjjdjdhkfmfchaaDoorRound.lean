/- A region within a round of a range over a function: it is walked as anywhere, if it defers nothing. No program in sight. -/
import Derived.Test.YtjjdjdhkfmfchaaDoorRange
import Derived.OrdersIn
import Derived.OrdersHeld
import Derived.TacticsIn
import Derived.Laws.Rows
namespace Go.Proofs.YtjjdjdhkfmfchaaDoor
set_option linter.unusedVariables false
set_option linter.unusedSimpArgs false
open Go.RowKit

def noDefer (o : Oper) : Bool := match o.op with | .defer _ => false | _ => true
theorem noDefer_spec {o : Oper} (h : noDefer o = true) : ∀ c, o.op ≠ .defer c := by
  intro c e
  unfold noDefer at h
  rw [e] at h
  cases h

section
variable {P : Program} {ops : Array Oper} {Q : Exit → Act → World → Prop} {l : Nat}

theorem opIn_of_wp {o : Oper} {a : Act} {w : World} {K : Act → World → Prop} (hd : noDefer o = true) (h : o.wp P a w K Q) : o.wpIn (Fence.wide.inRound l) 0 P a w K Q := by
  refine ⟨fun _ _ => trivial, ?_⟩
  rw [show (Fence.wide.inRound l).round = some l from rfl, Oper.semAt_some l _ o (noDefer_spec hd)]
  unfold Oper.wp at h
  generalize (execOp a.eval o).run P w = r at *
  cases r with
  | ok x w' =>
    cases x <;> simp only [Oper.upon, Oper.uponIn] at h ⊢ <;>
      first
        | exact h
        | exact ⟨fun h => (by cases h), CallsIn.inRound l (callsIn_wide.2 h)⟩
        | exact ⟨fun h => (by cases h), fun c cs _ => let ⟨v, w'', r, s⟩ := h c cs; ⟨v, w'', r, stepsIn_wide.2 s⟩⟩
  | halt x w' => cases x <;> simp only [Oper.upon, Oper.uponIn] at h ⊢ <;> exact h

theorem wpOpIn_of_wpOp {i : Nat} {K : Act → World → Prop} {a : Act} {w : World} (hd : ops.all noDefer = true) (hL : ¬ LetsOut Q) (h : wpOp P ops Q i K a w) : wpOpIn (Fence.wide.inRound l) 0 P ops Q i K a w := by
  unfold wpOp at h
  unfold wpOpIn
  cases ho : ops[i]? with
  | none => simpa [ho] using h
  | some o =>
    simp only [ho] at h ⊢
    have hdo : noDefer o = true := (Array.all_eq_true_iff_forall_mem.1 hd) o (Array.mem_of_getElem? ho)
    split
    · rename_i hw
      rw [if_pos hw] at h
      rcases h with h | ⟨_, h⟩
      · exact opIn_of_wp hdo h
      · exact absurd h hL
    · rename_i hw
      rw [if_neg hw] at h
      exact ⟨fun _ _ => trivial, h⟩

theorem wpAnyIn_of_wpAny {md : Region.Mode} (hd : ops.all noDefer = true) (hL : ¬ LetsOut Q) : ∀ (fuel : Nat) (listed : Array Bool) (a : Act) (w : World), wpAny P md ops Q fuel listed a w → wpAnyIn (Fence.wide.inRound l) 0 P md ops Q fuel listed a w
  | 0, _, _, _, h => h
  | fuel + 1, listed, a, w, h => ⟨h.1, fun i hi => wpOpIn_of_wpOp hd hL (wpOp_mono (fun a' w' h' => wpAnyIn_of_wpAny hd hL fuel _ a' w' h') (h.2 i hi))⟩

/-- a region that draws its order, within a round. -/
theorem round_region_any {id : Nat} {a : Act} {w : World} (hm : P.follows .mixedOrders = true) (hd : ops.all noDefer = true) (hL : ¬ LetsOut Q)
    (h : wpAny P .any ops Q ops.size (Array.replicate ops.size false) a w.drew) : (Code.region id ops true).wpIn (Fence.wide.inRound l) 0 P Q a w :=
  wpIn_region_any hm (wpAnyIn_of_wpAny hd hL _ _ _ _ h)
/-- the same, what the loads read held. -/
theorem round_region_held {S : World → Prop} {id : Nat} {a : Act} {w : World} (hm : P.follows .mixedOrders = true) (hd : ops.all noDefer = true) (hL : ¬ LetsOut Q)
    (h : wpAnyH P .any ops Q S ops.size (Array.replicate ops.size false) a w.drew) : (Code.region id ops true).wpIn (Fence.wide.inRound l) 0 P Q a w :=
  round_region_any hm hd hL (wpAny_of_held _ _ _ _ h)

theorem wpListIn_of_wpList : ∀ (ls : List Oper) (hd : ls.all noDefer = true) (hL : ¬ LetsOut Q) (a : Act) (w : World), wpList P ops Q ls a w → wpListIn (Fence.wide.inRound l) 0 P ops Q ls a w
  | [], _, _, _, _, h => h
  | o :: rest, hd, hL, a, w, h => by
    rw [List.all_cons, Bool.and_eq_true] at hd
    have ih := wpListIn_of_wpList rest hd.2 hL
    unfold wpList at h
    unfold wpListIn
    split
    · rename_i hw
      rw [if_pos hw] at h
      rcases h with h | ⟨_, h⟩
      · exact opIn_of_wp hd.1 (Oper.wp_mono ih h)
      · exact absurd h hL
    · rename_i hw
      rw [if_neg hw] at h
      exact ⟨fun _ _ => trivial, ih _ _ h⟩
theorem opIn_wide {o : Oper} {a : Act} {w : World} {K : Act → World → Prop} (h : o.wp P a w K Q) : o.wpIn Fence.wide 0 P a w K Q := by
  refine ⟨fun _ _ => trivial, ?_⟩
  rw [show Fence.wide.round = none from rfl, Oper.semAt_none]
  unfold Oper.wp at h
  generalize (execOp a.eval o).run P w = r at *
  cases r with
  | ok x w' =>
    cases x <;> simp only [Oper.upon, Oper.uponIn] at h ⊢ <;>
      first
        | exact h
        | exact ⟨fun h => (by cases h), callsIn_wide.2 h⟩
        | exact ⟨fun h => (by cases h), fun c cs _ => let ⟨v, w'', r, s⟩ := h c cs; ⟨v, w'', r, stepsIn_wide.2 s⟩⟩
  | halt x w' => cases x <;> simp only [Oper.upon, Oper.uponIn] at h ⊢ <;> exact h
/-- what is left of a region, under the wide fence: it is walked plainly. -/
theorem wide_list : ∀ (ls : List Oper) (hL : ¬ LetsOut Q) (a : Act) (w : World), wpList P ops Q ls a w → wpListIn Fence.wide 0 P ops Q ls a w
  | [], _, _, _, h => h
  | o :: rest, hL, a, w, h => by
    have ih := wide_list rest hL
    unfold wpList at h
    unfold wpListIn
    split
    · rename_i hw
      rw [if_pos hw] at h
      rcases h with h | ⟨_, h⟩
      · exact opIn_wide (Oper.wp_mono ih h)
      · exact absurd h hL
    · rename_i hw
      rw [if_neg hw] at h
      exact ⟨fun _ _ => trivial, ih _ _ h⟩
theorem wide_val {o : Oper} {rest : List Oper} {a : Act} {w w' : World} {v : Value} (hgd : o.guard = none) (hr : (execOp a.eval o).run P w = .ok (.value v) w') (h : wpListIn Fence.wide 0 P ops Q rest (a.put o.dst v) w') : wpListIn Fence.wide 0 P ops Q (o :: rest) a w := by
  unfold wpListIn
  rw [if_pos (by simp [Region.wanted, hgd])]
  refine opIn_wide ?_
  unfold Oper.wp
  rw [hr]
  exact h
/-- a load of a whole array or struct. -/
theorem wide_load_row {o : Oper} {rest : List Oper} {a : Act} {w : World} (hgd : o.guard = none) (ty : TypeId) (x : Operand) (ho : o.op = .load ty x)
    (g : Nat) (hx : a.eval x = .pointer (some ⟨g, 0, none⟩)) (t : TypeId) (cs : Array Value) (fr : Nat × Nat) (d : TypeDesc) (hg : w.heap[g]? = some (.cells cs t fr))
    (hu : P.underlying ty = some d) (hd : (match d with | .struct _ | .array _ _ => true | _ => false) = true) (hi : (P.info? ty).map (·.size) = some cs.size)
    (h : wpListIn Fence.wide 0 P ops Q rest (a.put o.dst (.agg cs)) w) : wpListIn Fence.wide 0 P ops Q (o :: rest) a w := by
  unfold wpListIn
  rw [if_pos (by simp [Region.wanted, hgd])]
  exact opIn_wide (wp_load_row ty x ho g hx t cs fr d hg hu hd hi h)
/-- a struct or an array put together. -/
theorem wide_build_as {o : Oper} {rest : List Oper} {a : Act} {w : World} (hgd : o.guard = none) (T : TypeId) (parts : Array (Nat × Operand)) (ho : o.op = .build T parts) (v : Value) (hb : ∀ w, (Instr.build T (parts.map fun (i, x) => (i, a.eval x))).run P w = .ok v w)
    (h : wpListIn Fence.wide 0 P ops Q rest (a.put o.dst v) w) : wpListIn Fence.wide 0 P ops Q (o :: rest) a w := by
  refine wide_val hgd ?_ h
  unfold execOp
  simp only [ho, Sem.run_bind, hb, Result.andThen_ok, Sem.run_pure]
/-- a struct of four parts put together. -/
theorem wide_build4 {o : Oper} {rest : List Oper} {a : Act} {w : World} (hgd : o.guard = none) (T : TypeId) (x0 x1 x2 x3 : Operand) (ho : o.op = .build T #[(0, x0), (1, x1), (2, x2), (3, x3)]) (v0 v1 v2 v3 v : Value)
    (h0 : a.eval x0 = v0) (h1 : a.eval x1 = v1) (h2 : a.eval x2 = v2) (h3 : a.eval x3 = v3) (hb : ∀ w, (Instr.build T #[(0, v0), (1, v1), (2, v2), (3, v3)]).run P w = .ok v w)
    (h : wpListIn Fence.wide 0 P ops Q rest (a.put o.dst v) w) : wpListIn Fence.wide 0 P ops Q (o :: rest) a w := by
  refine wide_val hgd ?_ h
  subst h0 h1 h2 h3
  unfold execOp
  simp [ho, Sem.run_bind, hb, Result.andThen_ok, Sem.run_pure]
/-- a region in its own order, within a round. -/
theorem round_region_list {id : Nat} {ls : List Oper} {a : Act} {w : World} (hd : ls.all noDefer = true) (hL : ¬ LetsOut Q) (h : wpList P ls.toArray Q ls a w) : (Code.region id ls.toArray false).wpIn (Fence.wide.inRound l) 0 P Q a w :=
  wpIn_region_lit (wpListIn_of_wpList ls hd hL a w h)
end
end Go.Proofs.YtjjdjdhkfmfchaaDoor

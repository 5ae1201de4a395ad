/- A range over a function that the caller leaves by a break: what the iterator owes, what the rounds owe. No program in sight. -/
import Derived.RangeFuncCalls
import Derived.RangeFuncOwn
import Derived.RangeFuncGives
import Derived.Below
namespace Go.Proofs.YtjjdjdhkfmfchaaDoor
set_option linter.unusedVariables false
set_option linter.unusedSimpArgs false
open Go.RowKit

/-- I minds neither new blocks nor a turn of the blocks lo to hi. -/
def Stable (lo hi : Nat) (I : World → Prop) : Prop := ∀ (A B : World) (row : Option Nat), I A → A.grownBy B row → (∀ r, row = some r → lo ≤ r ∧ r ≤ hi) → I B
/-- the blocks of which p speaks lie as they lay. -/
def Kept (p : Nat → Prop) (A B : World) : Prop := A.heap.size ≤ B.heap.size ∧ ∀ b, p b → B.heap[b]? = A.heap[b]?
theorem Kept.refl (p : Nat → Prop) (A : World) : Kept p A A := ⟨Nat.le_refl _, fun _ _ => rfl⟩
theorem Kept.trans {p : Nat → Prop} {A B C : World} (h : Kept p A B) (k : Kept p B C) : Kept p A C := ⟨Nat.le_trans h.1 k.1, fun b hb => (k.2 b hb).trans (h.2 b hb)⟩
theorem Kept.grown {p : Nat → Prop} {A B : World} {row : Option Nat} (h : A.grownBy B row) (hp : ∀ b, p b → b < A.heap.size) (hr : ∀ b, p b → row ≠ some b) : Kept p A B :=
  ⟨h.size, fun b hb => h.block b (hp b hb) (fun e => hr b hb e.symm)⟩
theorem Kept.mono {p q : Nat → Prop} {A B : World} (h : Kept p A B) (hq : ∀ b, q b → p b) : Kept q A B := ⟨h.1, fun b hb => h.2 b (hq b hb)⟩
theorem Stable.alloc {lo hi : Nat} {I : World → Prop} (h : Stable lo hi I) {A : World} (o : Obj) (hA : I A) : I (A.alloc o) := h A _ none hA (World.grownBy_alloc A o none) (fun r e => by cases e)
theorem Stable.put {lo hi : Nat} {I : World → Prop} (h : Stable lo hi I) {A : World} (l : Nat) (o : Obj) (hA : I A) (h1 : lo ≤ l) (h2 : l ≤ hi) : I (A.putObj l o) :=
  h A _ (some l) hA (grownBy_putObj' A l o) (fun r e => by cases e; exact ⟨h1, h2⟩)

/-- what an iterator owes, called in world W0: it hands el 0, el 1, .. to yield till el K is answered with false, and then returns. It lays a block of its own first, and turns that alone. -/
def Hands (P : Program) (gf : Nat) (lb : Array Value) (el : Nat → Array Value) (K : Nat) (keep : Nat → Prop) (W0 : World) : Prop :=
  ∀ (l : Nat) (J : Nat → World → Prop) (Jx : World → Prop), (∀ k, Stable W0.heap.size W0.heap.size (J k)) → Stable W0.heap.size W0.heap.size Jx →
    (∀ k W1, k < K → J k W1 → W0.heap.size < W1.heap.size → YieldAt Fence.wide 0 P l (el k) W1 fun e W' => e = .returned (.bool true) ∧ J (k + 1) W' ∧ Kept (fun b => keep b ∨ b = W0.heap.size) W1 W') →
    (∀ W1, J K W1 → W0.heap.size < W1.heap.size → YieldAt Fence.wide 0 P l (el K) W1 fun e W' => e = .returned (.bool false) ∧ Jx W') →
    J 0 W0 → CallsIn Fence.wide 0 P gf (#[.func (.yield l) #[] #[]] ++ lb) W0 fun e W' => (∃ v, e = .returned v) ∧ Jx W'

/-- what lies at the loop's own blocks is kept. -/
def Own3 (keep : Nat → Prop) (lo b : Nat) : Prop := keep b ∨ (lo ≤ b ∧ b ≤ lo + 2)

/-- how a round's body may be left. -/
def RoundPost (keep : Nat → Prop) (I : Nat → World → Prop) (Ix : World → Prop) (lo K id k : Nat) (W : World) : Exit → Act → World → Prop
  | .normal, _, W' => k < K ∧ I (k + 1) W' ∧ Kept (Own3 keep lo) W W'
  | .exit x, _, W' => k = K ∧ x = id ∧ Ix W' ∧ Kept (Own3 keep lo) W W'
  | _, _, _ => False

theorem wpIn_rangeFunc_break {P : Program} {g : Operand} {ps : Array Tmp} {assign body : Code} {Q : Exit → Act → World → Prop} {a : Act} {w : World}
    {gf : Nat} {lb : Array Value} (hg : a.eval g = .func (.func gf) #[] lb) (eg : ∀ args w, (callFunc gf args).run P w = .ok (.enter gf args) w)
    {el : Nat → Array Value} {K : Nat} {keep : Nat → Prop} (hkeep : ∀ b, keep b → b < w.heap.size) (id : Nat)
    (hseq : ∀ W0, w.grownBy W0 none → W0.heap.size = w.heap.size + 2 → Hands P gf lb el K keep W0) (hps : ∀ k, (el k).size = ps.size)
    (I : Nat → World → Prop) (Ix : World → Prop) (hI : ∀ k, Stable w.heap.size (w.heap.size + 2) (I k)) (hIx : Stable w.heap.size (w.heap.size + 2) Ix) (h0 : I 0 w)
    (hround : ∀ (l k : Nat) (W : World), l = w.heap.size + 1 → k ≤ K → w.heap.size + 2 < W.heap.size → I k W →
      assign.wpIn (Fence.wide.inRound l) 0 P (Exit.then (fun a1 W1 => Kept (Own3 keep w.heap.size) W W1 ∧ ∀ W2, W1.grownBy W2 (some l) → body.wpIn (Fence.wide.inRound l) 0 P (RoundPost keep I Ix w.heap.size K id k W2) a1 W2) (fun _ _ _ => False))
        { tmps := (ps.zip (el k)).foldl (fun t (p, v) => t.setIfInBounds p v) a.tmps, defers := [] } W)
    (hstop : ∀ (D : Nat) (W : World), D = w.heap.size → Ix W → W.heap[D]? = some (.deferred (some [])) → Q (.exit id) { a with defers := { target := .collected D, args := #[] } :: a.defers } W) :
    (Code.rangeFunc g ps assign body).wpIn Fence.wide 0 P Q a w := by
  refine wpIn_rangeFunc ?_
  intro fn hfn
  obtain ⟨rec, hrec⟩ : ∃ rec : LoopState → Option Code → Loop, rec = fun st pe => { state := st, pending := pe, fn, tmps := a.tmps, params := ps, assign, body, defers := w.heap.size } := ⟨_, rfl⟩
  obtain ⟨W1, hW1⟩ : ∃ W1, (w.alloc (.deferred (some []))).alloc (.loop (rec .ready none)) = W1 := ⟨_, rfl⟩
  have hs1 : W1.heap.size = w.heap.size + 2 := by rw [← hW1]; simp
  have hL1 : W1.heap[w.heap.size + 1]? = some (.loop (rec .ready none)) := by
    rw [← hW1]; have := World.alloc_heap_new (w.alloc (.deferred (some []))) (.loop (rec .ready none)); rwa [World.size_alloc] at this
  have hK1 : W1.heap[w.heap.size]? = some (.deferred (some [])) := by
    rw [← hW1]; exact (Below.heap_alloc _ _ _ (by simp)).trans (World.alloc_heap_new w _)
  have hI1 : I 0 W1 := by rw [← hW1]; exact (hI 0).alloc _ ((hI 0).alloc _ h0)
  have hg1 : w.grownBy W1 none := by
    rw [← hW1]
    have h1 := World.grownBy_alloc w (.deferred (some [])) none
    have h2 := World.grownBy_alloc (w.alloc (.deferred (some []))) (.loop (rec .ready none)) none
    exact ⟨h2.os.trans h1.os, h2.tape.trans h1.tape, h2.output.trans h1.output, Nat.le_trans h1.size h2.size, fun k hk hn => (h2.block k (Nat.lt_of_lt_of_le hk h1.size) hn).trans (h1.block k hk hn)⟩
  refine ⟨w.heap.size + 1, [{ target := .collected w.heap.size, args := #[] }], W1, { target := .fn (.func gf) lb, args := #[.func (.yield (w.heap.size + 1)) #[] #[]] }, W1, gf,
    #[.func (.yield (w.heap.size + 1)) #[] #[]] ++ lb, W1, ?_, ?_, ?_, ?_, (fun h => by cases h), ?_⟩
  · rw [← hW1, hrec]; exact run_enterLoop_outer _ _ _ _ _
  · simp only [resolve, hg]
    simp [go_sem]
  · intro f' hf'; trivial
  · simp [invoke, go_sem, eg]
  · have row1 : ∀ {row : Option Nat}, (∀ r, row = some r → W1.heap.size ≤ r ∧ r ≤ W1.heap.size) → ∀ b, b < w.heap.size + 2 → some b ≠ row := fun hr b hb e => by have := hr b e.symm; omega
    refine (hseq W1 hg1 hs1 (w.heap.size + 1)
      (fun k W => I k W ∧ W.heap[w.heap.size + 1]? = some (.loop (rec .ready none)) ∧ W.heap[w.heap.size]? = some (.deferred (some [])))
      (fun W => Ix W ∧ W.heap[w.heap.size + 1]? = some (.loop (rec .done (some (.exit id)))) ∧ W.heap[w.heap.size]? = some (.deferred (some [])))
      (fun k A B row hs hg' hr => ⟨hI k A B row hs.1 hg' (fun r e => by have := hr r e; omega), (hg'.block _ (Array.getElem?_eq_some_iff.1 hs.2.1).1 (row1 hr _ (by omega))).trans hs.2.1, (hg'.block _ (Array.getElem?_eq_some_iff.1 hs.2.2).1 (row1 hr _ (by omega))).trans hs.2.2⟩)
      (fun A B row hs hg' hr => ⟨hIx A B row hs.1 hg' (fun r e => by have := hr r e; omega), (hg'.block _ (Array.getElem?_eq_some_iff.1 hs.2.1).1 (row1 hr _ (by omega))).trans hs.2.1, (hg'.block _ (Array.getElem?_eq_some_iff.1 hs.2.2).1 (row1 hr _ (by omega))).trans hs.2.2⟩)
      ?_ ?_ ⟨hI1, hL1, hK1⟩).mono ?_
    · -- a round that goes on
      rintro k W hk ⟨hi, hl, hd⟩ hlt
      rw [hs1] at hlt
      have hy := run_yield (P := P) (args := el k) hl (by rw [hrec]; exact hps k)
      rw [hrec] at hy
      refine ⟨fn, _, assign, body, hy, roundIn_of_wpIn hfn (wpIn_mono (hround _ k W rfl (by omega) hlt hi) ?_)⟩
      intro e a1 Wa hp
      cases e with
      | normal =>
        obtain ⟨hka, hb⟩ := hp
        have hla := (hka.2 _ (.inr ⟨by omega, by omega⟩)).trans hl
        refine ⟨_, run_beginRound hla (by rw [hrec]), ?_⟩
        have hl2 : (Wa.putObj (w.heap.size + 1) (.loop { rec .ready none with state := .busy })).heap[w.heap.size + 1]? = some (.loop { rec .ready none with state := .busy }) := World.putObj_heap_same (Array.getElem?_eq_some_iff.1 hla).1
        refine wpIn_mono (hb _ (grownBy_putObj' Wa _ _)) ?_
        intro e a3 W3 hp3
        cases e with
        | normal =>
          obtain ⟨_, hi3, hk3⟩ := hp3
          have hl3 := (hk3.2 _ (.inr ⟨by omega, by omega⟩)).trans hl2
          have hr := run_endRound (P := P) none hl3
          rw [hrec] at hr
          refine ⟨_, _, hr, rfl, ⟨(hI _).put _ _ hi3 (by omega) (by omega), ?_, ?_⟩, ?_⟩
          · rw [World.putObj_heap_same (Array.getElem?_eq_some_iff.1 hl3).1, hrec]; rfl
          · rw [World.putObj_heap_other (by omega), hk3.2 _ (.inr ⟨by omega, by omega⟩), World.putObj_heap_other (by omega), hka.2 _ (.inr ⟨by omega, by omega⟩)]; exact hd
          · refine ⟨?_, fun b hb => ?_⟩
            · have := hka.1; have := hk3.1; simp at this ⊢; omega
            · have hbl : b ≠ w.heap.size + 1 := by rcases hb with h | h; have := hkeep b h; omega; omega
              have hbo : Own3 keep w.heap.size b := by rcases hb with h | h; exact .inl h; exact .inr ⟨by omega, by omega⟩
              rw [World.putObj_heap_other hbl, hk3.2 b hbo, World.putObj_heap_other hbl, hka.2 b hbo]
        | exit x => obtain ⟨h, _⟩ := hp3; omega
        | ret => exact hp3.elim
        | goto t => exact hp3.elim
        | panic ch => exact hp3.elim
        | outgrown => exact hp3.elim
      | exit x => exact hp.elim
      | ret => exact hp.elim
      | goto t => exact hp.elim
      | panic ch => exact hp.elim
      | outgrown => exact hp.elim
    · -- the round that breaks
      rintro W ⟨hi, hl, hd⟩ hlt
      rw [hs1] at hlt
      have hy := run_yield (P := P) (args := el K) hl (by rw [hrec]; exact hps K)
      rw [hrec] at hy
      refine ⟨fn, _, assign, body, hy, roundIn_of_wpIn hfn (wpIn_mono (hround _ K W rfl (by omega) hlt hi) ?_)⟩
      intro e a1 Wa hp
      cases e with
      | normal =>
        obtain ⟨hka, hb⟩ := hp
        have hla := (hka.2 _ (.inr ⟨by omega, by omega⟩)).trans hl
        refine ⟨_, run_beginRound hla (by rw [hrec]), ?_⟩
        have hl2 : (Wa.putObj (w.heap.size + 1) (.loop { rec .ready none with state := .busy })).heap[w.heap.size + 1]? = some (.loop { rec .ready none with state := .busy }) := World.putObj_heap_same (Array.getElem?_eq_some_iff.1 hla).1
        refine wpIn_mono (hb _ (grownBy_putObj' Wa _ _)) ?_
        intro e a3 W3 hp3
        cases e with
        | normal => obtain ⟨h, _⟩ := hp3; omega
        | exit x =>
          obtain ⟨_, rfl, hi3, hk3⟩ := hp3
          have hl3 := (hk3.2 _ (.inr ⟨by omega, by omega⟩)).trans hl2
          have hr := run_endRound (P := P) (some (.exit x)) hl3
          rw [hrec] at hr
          refine ⟨_, _, hr, rfl, hIx.put _ _ hi3 (by omega) (by omega), ?_, ?_⟩
          · rw [World.putObj_heap_same (Array.getElem?_eq_some_iff.1 hl3).1, hrec]; rfl
          · rw [World.putObj_heap_other (by omega), hk3.2 _ (.inr ⟨by omega, by omega⟩), World.putObj_heap_other (by omega), hka.2 _ (.inr ⟨by omega, by omega⟩)]; exact hd
        | ret => exact hp3.elim
        | goto t => exact hp3.elim
        | panic ch => exact hp3.elim
        | outgrown => exact hp3.elim
      | exit x => exact hp.elim
      | ret => exact hp.elim
      | goto t => exact hp.elim
      | panic ch => exact hp.elim
      | outgrown => exact hp.elim
    · -- behind the iterator
      rintro e W2 ⟨⟨v, rfl⟩, hi, hl, hd⟩
      have hr := run_endLoop (P := P) hl (by rw [hrec]; simp)
      rw [hrec] at hr
      refine ⟨some (.exit id), _, hr, wpIn_exit (hstop _ _ rfl (hIx.put _ _ hi (by omega) (by omega)) ?_)⟩
      rw [World.putObj_heap_other (by omega)]
      exact hd
end Go.Proofs.YtjjdjdhkfmfchaaDoor

/- A range over a function that the caller leaves by a break, where the iterator lays rows of its own meanwhile that a round must keep. No program in sight. -/
import Derived.Test.YtjjdjdhkfmfchaaDoorRange
namespace Go.Proofs.YtjjdjdhkfmfchaaDoor
set_option linter.unusedVariables false
set_option linter.unusedSimpArgs false
open Go.RowKit

/-- J minds no turn of the blocks lo to hi nor of G's, nor new blocks, which may be put to G. -/
structure StableG (lo hi : Nat) (J : (Nat → Prop) → World → Prop) : Prop where
  turn : ∀ (G : Nat → Prop) (A B : World) (row : Option Nat), J G A → A.grownBy B row → (∀ r, row = some r → (lo ≤ r ∧ r ≤ hi) ∨ G r) → J G B
  lay : ∀ (G : Nat → Prop) (A B : World), J G A → A.grownBy B none → J (fun b => G b ∨ (A.heap.size ≤ b ∧ b < B.heap.size)) B
theorem StableG.alloc {lo hi : Nat} {I : (Nat → Prop) → World → Prop} (h : StableG lo hi I) {G : Nat → Prop} {A : World} (o : Obj) (hA : I G A) : I G (A.alloc o) := h.turn G A _ none hA (World.grownBy_alloc A o none) (fun r e => by cases e)
theorem StableG.put {lo hi : Nat} {I : (Nat → Prop) → World → Prop} (h : StableG lo hi I) {G : Nat → Prop} {A : World} (l : Nat) (o : Obj) (hA : I G A) (h1 : lo ≤ l) (h2 : l ≤ hi) : I G (A.putObj l o) :=
  h.turn G A _ (some l) hA (grownBy_putObj' A l o) (fun r e => by cases e; exact .inl ⟨h1, h2⟩)

/-- what an iterator owes, called in world W0: it hands el 0, el 1, .. to yield till el K is answered with false, and then returns. It turns a block of its own, the first that it lays, and what it lays meanwhile: G. -/
def HandsG (P : Program) (gf : Nat) (lb : Array Value) (el : Nat → Array Value) (K : Nat) (keep : Nat → Prop) (W0 : World) : Prop :=
  ∀ (l : Nat) (J : Nat → (Nat → Prop) → World → Prop) (Jx : World → Prop), (∀ k, StableG W0.heap.size W0.heap.size (J k)) →
    (∀ k G W1, k < K → J k G W1 → W0.heap.size < W1.heap.size → YieldAt Fence.wide 0 P l (el k) W1 fun e W' => e = .returned (.bool true) ∧ J (k + 1) G W' ∧ Kept (fun b => keep b ∨ b = W0.heap.size ∨ G b) W1 W') →
    (∀ G W1, J K G W1 → W0.heap.size < W1.heap.size → YieldAt Fence.wide 0 P l (el K) W1 fun e W' => e = .returned (.bool false) ∧ Jx W') →
    J 0 (fun _ => False) W0 → CallsIn Fence.wide 0 P gf (#[.func (.yield l) #[] #[]] ++ lb) W0 fun e W' => (∃ v, e = .returned v) ∧ Jx W'

/-- what lies at the loop's own blocks, and at the iterator's, is kept. -/
def OwnG (keep G : Nat → Prop) (lo b : Nat) : Prop := keep b ∨ (lo ≤ b ∧ b ≤ lo + 2) ∨ G b

/-- how a round's body may be left. -/
def RoundPostG (keep G : Nat → Prop) (I : Nat → (Nat → Prop) → World → Prop) (Ix : World → Prop) (lo K id k : Nat) (W : World) : Exit → Act → World → Prop
  | .normal, _, W' => k < K ∧ I (k + 1) G W' ∧ Kept (OwnG keep G lo) W W'
  | .exit x, _, W' => k = K ∧ x = id ∧ Ix W' ∧ Kept (OwnG keep G lo) W W'
  | _, _, _ => False

theorem wpIn_rangeFunc_breakG {P : Program} {g : Operand} {ps : Array Tmp} {assign body : Code} {Q : Exit → Act → World → Prop} {a : Act} {w : World}
    {gf : Nat} {lb : Array Value} (hg : a.eval g = .func (.func gf) #[] lb) (eg : ∀ args w, (callFunc gf args).run P w = .ok (.enter gf args) w)
    {el : Nat → Array Value} {K : Nat} {keep : Nat → Prop} (hkeep : ∀ b, keep b → b < w.heap.size) (id : Nat)
    (hseq : ∀ W0, w.grownBy W0 none → W0.heap.size = w.heap.size + 2 → HandsG P gf lb el K keep W0) (hps : ∀ k, (el k).size = ps.size)
    (I : Nat → (Nat → Prop) → World → Prop) (Ix : World → Prop) (hI : ∀ k, StableG w.heap.size (w.heap.size + 2) (I k)) (hIx : Stable w.heap.size (w.heap.size + 2) Ix) (h0 : I 0 (fun _ => False) w)
    (hround : ∀ (l k : Nat) (G : Nat → Prop) (W : World), l = w.heap.size + 1 → k ≤ K → w.heap.size + 2 < W.heap.size → (∀ b, G b → w.heap.size + 2 ≤ b) → I k G W →
      assign.wpIn (Fence.wide.inRound l) 0 P (Exit.then (fun a1 W1 => Kept (OwnG keep G w.heap.size) W W1 ∧ ∀ W2, W1.grownBy W2 (some l) → body.wpIn (Fence.wide.inRound l) 0 P (RoundPostG keep G I Ix w.heap.size K id k W2) a1 W2) (fun _ _ _ => False))
        { tmps := (ps.zip (el k)).foldl (fun t (p, v) => t.setIfInBounds p v) a.tmps, defers := [] } W)
    (hstop : ∀ (D : Nat) (W : World), D = w.heap.size → Ix W → W.heap[D]? = some (.deferred (some [])) → Q (.exit id) { a with defers := { target := .collected D, args := #[] } :: a.defers } W) :
    (Code.rangeFunc g ps assign body).wpIn Fence.wide 0 P Q a w := by
  refine wpIn_rangeFunc ?_
  intro fn hfn
  obtain ⟨rec, hrec⟩ : ∃ rec : LoopState → Option Code → Loop, rec = fun st pe => { state := st, pending := pe, fn, tmps := a.tmps, params := ps, assign, body, defers := w.heap.size } := ⟨_, rfl⟩
  obtain ⟨W1, hW1⟩ : ∃ W1, (w.alloc (.deferred (some []))).alloc (.loop (rec .ready none)) = W1 := ⟨_, rfl⟩
  have hs1 : W1.heap.size = w.heap.size + 2 := by rw [← hW1]; simp
  have hL1 : W1.heap[w.heap.size + 1]? = some (.loop (rec .ready none)) := by
    rw [← hW1]; have := World.alloc_heap_new (w.alloc (.deferred (some []))) (.loop (rec .ready none)); rwa [World.size_alloc] at this
  have hK1 : W1.heap[w.heap.size]? = some (.deferred (some [])) := by
    rw [← hW1]; exact (Below.heap_alloc _ _ _ (by simp)).trans (World.alloc_heap_new w _)
  have hI1 : I 0 (fun _ => False) W1 := by rw [← hW1]; exact (hI 0).alloc _ ((hI 0).alloc _ h0)
  have hg1 : w.grownBy W1 none := by
    rw [← hW1]
    have h1 := World.grownBy_alloc w (.deferred (some [])) none
    have h2 := World.grownBy_alloc (w.alloc (.deferred (some []))) (.loop (rec .ready none)) none
    exact ⟨h2.os.trans h1.os, h2.tape.trans h1.tape, h2.output.trans h1.output, Nat.le_trans h1.size h2.size, fun k hk hn => (h2.block k (Nat.lt_of_lt_of_le hk h1.size) hn).trans (h1.block k hk hn)⟩
  refine ⟨w.heap.size + 1, [{ target := .collected w.heap.size, args := #[] }], W1, { target := .fn (.func gf) lb, args := #[.func (.yield (w.heap.size + 1)) #[] #[]] }, W1, gf,
    #[.func (.yield (w.heap.size + 1)) #[] #[]] ++ lb, W1, ?_, ?_, ?_, ?_, (fun h => by cases h), ?_⟩
  · rw [← hW1, hrec]; exact run_enterLoop_outer _ _ _ _ _
  · simp only [resolve, hg]
    simp [go_sem]
  · intro f' hf'; trivial
  · simp [invoke, go_sem, eg]
  · have row1 : ∀ {row : Option Nat}, (∀ r, row = some r → W1.heap.size ≤ r ∧ r ≤ W1.heap.size) → ∀ b, b < w.heap.size + 2 → some b ≠ row := fun hr b hb e => by have := hr b e.symm; omega
    refine (hseq W1 hg1 hs1 (w.heap.size + 1)
      (fun k G W => I k G W ∧ W.heap[w.heap.size + 1]? = some (.loop (rec .ready none)) ∧ W.heap[w.heap.size]? = some (.deferred (some [])) ∧ ∀ b, G b → w.heap.size + 2 ≤ b)
      (fun W => Ix W ∧ W.heap[w.heap.size + 1]? = some (.loop (rec .done (some (.exit id)))) ∧ W.heap[w.heap.size]? = some (.deferred (some [])))
      (fun k => ⟨fun G A B row hs hg' hr => ?_, fun G A B hs hg' => ?_⟩)
      ?_ ?_ ⟨hI1, hL1, hK1, fun b h => h.elim⟩).mono ?_
    · have hne : ∀ b, b < w.heap.size + 2 → some b ≠ row := fun b hb e => by
        rcases hr b e.symm with h | h
        · omega
        · have := hs.2.2.2 b h; omega
      exact ⟨(hI k).turn G A B row hs.1 hg' (fun r e => (hr r e).imp (fun h => by omega) (fun h => h)), (hg'.block _ (Array.getElem?_eq_some_iff.1 hs.2.1).1 (hne _ (by omega))).trans hs.2.1, (hg'.block _ (Array.getElem?_eq_some_iff.1 hs.2.2.1).1 (hne _ (by omega))).trans hs.2.2.1, hs.2.2.2⟩
    · refine ⟨(hI k).lay G A B hs.1 hg', (hg'.block _ (Array.getElem?_eq_some_iff.1 hs.2.1).1 (by simp)).trans hs.2.1, (hg'.block _ (Array.getElem?_eq_some_iff.1 hs.2.2.1).1 (by simp)).trans hs.2.2.1, fun b hb => ?_⟩
      rcases hb with h | h
      · exact hs.2.2.2 b h
      · have := (Array.getElem?_eq_some_iff.1 hs.2.1).1; omega
    · -- a round that goes on
      rintro k G W hk ⟨hi, hl, hd, hG⟩ hlt
      rw [hs1] at hlt
      have hy := run_yield (P := P) (args := el k) hl (by rw [hrec]; exact hps k)
      rw [hrec] at hy
      refine ⟨fn, _, assign, body, hy, roundIn_of_wpIn hfn (wpIn_mono (hround _ k G W rfl (by omega) hlt hG hi) ?_)⟩
      intro e a1 Wa hp
      cases e with
      | normal =>
        obtain ⟨hka, hb⟩ := hp
        have hla := (hka.2 _ (.inr (.inl ⟨by omega, by omega⟩))).trans hl
        refine ⟨_, run_beginRound hla (by rw [hrec]), ?_⟩
        have hl2 : (Wa.putObj (w.heap.size + 1) (.loop { rec .ready none with state := .busy })).heap[w.heap.size + 1]? = some (.loop { rec .ready none with state := .busy }) := World.putObj_heap_same (Array.getElem?_eq_some_iff.1 hla).1
        refine wpIn_mono (hb _ (grownBy_putObj' Wa _ _)) ?_
        intro e a3 W3 hp3
        cases e with
        | normal =>
          obtain ⟨_, hi3, hk3⟩ := hp3
          have hl3 := (hk3.2 _ (.inr (.inl ⟨by omega, by omega⟩))).trans hl2
          have hr := run_endRound (P := P) none hl3
          rw [hrec] at hr
          refine ⟨_, _, hr, rfl, ⟨(hI _).put _ _ hi3 (by omega) (by omega), ?_, ?_, hG⟩, ?_⟩
          · rw [World.putObj_heap_same (Array.getElem?_eq_some_iff.1 hl3).1, hrec]; rfl
          · rw [World.putObj_heap_other (by omega), hk3.2 _ (.inr (.inl ⟨by omega, by omega⟩)), World.putObj_heap_other (by omega), hka.2 _ (.inr (.inl ⟨by omega, by omega⟩))]; exact hd
          · refine ⟨?_, fun b hb => ?_⟩
            · have := hka.1; have := hk3.1; simp at this ⊢; omega
            · have hbl : b ≠ w.heap.size + 1 := by
                rcases hb with h | h | h
                · have := hkeep b h; omega
                · omega
                · have := hG b h; omega
              have hbo : OwnG keep G w.heap.size b := by
                rcases hb with h | h | h
                · exact .inl h
                · exact .inr (.inl ⟨by omega, by omega⟩)
                · exact .inr (.inr h)
              rw [World.putObj_heap_other hbl, hk3.2 b hbo, World.putObj_heap_other hbl, hka.2 b hbo]
        | exit x => obtain ⟨h, _⟩ := hp3; omega
        | ret => exact hp3.elim
        | goto t => exact hp3.elim
        | panic ch => exact hp3.elim
        | outgrown => exact hp3.elim
      | exit x => exact hp.elim
      | ret => exact hp.elim
      | goto t => exact hp.elim
      | panic ch => exact hp.elim
      | outgrown => exact hp.elim
    · -- the round that breaks
      rintro G W ⟨hi, hl, hd, hG⟩ hlt
      rw [hs1] at hlt
      have hy := run_yield (P := P) (args := el K) hl (by rw [hrec]; exact hps K)
      rw [hrec] at hy
      refine ⟨fn, _, assign, body, hy, roundIn_of_wpIn hfn (wpIn_mono (hround _ K G W rfl (by omega) hlt hG hi) ?_)⟩
      intro e a1 Wa hp
      cases e with
      | normal =>
        obtain ⟨hka, hb⟩ := hp
        have hla := (hka.2 _ (.inr (.inl ⟨by omega, by omega⟩))).trans hl
        refine ⟨_, run_beginRound hla (by rw [hrec]), ?_⟩
        have hl2 : (Wa.putObj (w.heap.size + 1) (.loop { rec .ready none with state := .busy })).heap[w.heap.size + 1]? = some (.loop { rec .ready none with state := .busy }) := World.putObj_heap_same (Array.getElem?_eq_some_iff.1 hla).1
        refine wpIn_mono (hb _ (grownBy_putObj' Wa _ _)) ?_
        intro e a3 W3 hp3
        cases e with
        | normal => obtain ⟨h, _⟩ := hp3; omega
        | exit x =>
          obtain ⟨_, rfl, hi3, hk3⟩ := hp3
          have hl3 := (hk3.2 _ (.inr (.inl ⟨by omega, by omega⟩))).trans hl2
          have hr := run_endRound (P := P) (some (.exit x)) hl3
          rw [hrec] at hr
          refine ⟨_, _, hr, rfl, hIx.put _ _ hi3 (by omega) (by omega), ?_, ?_⟩
          · rw [World.putObj_heap_same (Array.getElem?_eq_some_iff.1 hl3).1, hrec]; rfl
          · rw [World.putObj_heap_other (by omega), hk3.2 _ (.inr (.inl ⟨by omega, by omega⟩)), World.putObj_heap_other (by omega), hka.2 _ (.inr (.inl ⟨by omega, by omega⟩))]; exact hd
        | ret => exact hp3.elim
        | goto t => exact hp3.elim
        | panic ch => exact hp3.elim
        | outgrown => exact hp3.elim
      | exit x => exact hp.elim
      | ret => exact hp.elim
      | goto t => exact hp.elim
      | panic ch => exact hp.elim
      | outgrown => exact hp.elim
    · -- behind the iterator
      rintro e W2 ⟨⟨v, rfl⟩, hi, hl, hd⟩
      have hr := run_endLoop (P := P) hl (by rw [hrec]; simp)
      rw [hrec] at hr
      refine ⟨some (.exit id), _, hr, wpIn_exit (hstop _ _ rfl (hIx.put _ _ hi (by omega) (by omega)) ?_)⟩
      rw [World.putObj_heap_other (by omega)]
      exact hd
end Go.Proofs.YtjjdjdhkfmfchaaDoor

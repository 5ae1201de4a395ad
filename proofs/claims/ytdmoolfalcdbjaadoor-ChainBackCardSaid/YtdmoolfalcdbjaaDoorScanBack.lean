/- Plain laws: what is scanned are the frames that the bytes begin with. No program in sight. -/
import Derived.Test.YtdmoolfalcdbjaaDoorScanPlain
namespace Go.Proofs.YtdmoolfalcdbjaaDoor.Chain
set_option linter.unusedVariables false
set_option linter.unusedSimpArgs false
open Sha Oct

theorem read_text_more {l : List UInt8} {m m' : Int} {t : List UInt8} {n : Nat} (h : readText l m = (t, n, 0)) (hm : (t.length : Int) ≤ m') : readText l m' = (t, n, 0) := by
  rcases hr : readNum l with ⟨v, k, x⟩
  unfold readText at h ⊢
  rw [hr] at h ⊢
  simp only at h ⊢
  split at h
  · rename_i hx; simp only [Prod.mk.injEq] at h; exact absurd h.2.2 hx
  · rename_i hx
    split at h
    · simp at h
    · split at h
      · simp at h
      · rename_i h1 h2
        obtain rfl : x = 0 := by omega
        obtain ⟨_, hk, _, _⟩ := readNum_bounds hr
        have ht := h
        simp only [Prod.mk.injEq] at ht
        have hl : t.length = v := by rw [← ht.1, List.length_take, List.length_drop]; omega
        rw [if_neg hx, if_neg (by omega), if_neg h2]
        exact h
theorem read_text_back' {t : List UInt8} (ht : t.length < 256 ^ 8) {m : Int} (hm : (t.length : Int) ≤ m) (s : List UInt8) : readText (text t ++ s) m = (t, (text t).length, 0) :=
  read_text_more (read_text_back ht s) hm
theorem small8 {r : List UInt8} (h : r.length ≤ 8192) : r.length < 256 ^ 8 := by rw [p8]; omega

/-- frame by frame, what was read is what the bytes begin with. -/
theorem recs_front (s : List UInt8) : ∀ k, k ≤ many s → framesL zlink (recs s k) = s.take (stt s k).2 ∧ headL zlink (recs s k) = (stt s k).1 ∧ (recs s k).all fits = true
  | 0, _ => ⟨by simp [recs, framesL, stt], rfl, rfl⟩
  | k + 1, h => by
    obtain ⟨h1, h2, h3⟩ := recs_front s k (by omega)
    obtain ⟨r, n, hg, hr, hst⟩ := stt_good (many_good s k (by omega))
    obtain ⟨g1, g2, g3⟩ := good_some hg
    obtain ⟨t1, t2, t3, t4⟩ := readText_ok g1
    refine ⟨?_, ?_, ?_⟩
    · rw [recs, framesL_append, h1, h2, hr, hst]
      simp only [framesL, List.append_nil, frameL]
      rw [t4, ← g3, Nat.add_assoc, List.take_add, List.take_add, List.drop_drop]
    · rw [recs, headL_append, h2, hr, hst]
      rfl
    · rw [recs, List.all_append, h3, hr]
      simp [fits]
      omega

theorem scan_frames {s : List UInt8} {a : List (List UInt8)} {b : List UInt8} {c : Nat} (h : scanR s = (a, b, c)) : framesL zlink a = s.take c ∧ headL zlink a = b ∧ chk a = 0 ∧ c ≤ s.length ∧ 33 * a.length ≤ s.length := by
  unfold scanR at h
  simp only [Prod.mk.injEq] at h
  obtain ⟨rfl, rfl, rfl⟩ := h
  obtain ⟨h1, h2, h3⟩ := recs_front s _ (Nat.le_refl _)
  refine ⟨h1, h2, by unfold chk; rw [if_pos h3], at_le s _, ?_⟩
  rw [recs_length]
  exact many_le s

theorem all_take {ls : List (List UInt8)} (h : ls.all fits = true) {k : Nat} (hk : k < ls.length) : (ls[k]).length ≤ 8192 := by
  have := List.all_eq_true.1 h _ (List.getElem_mem hk)
  unfold fits at this
  simpa using this

/-- frames are read, frame by frame, whatever comes behind them. -/
theorem frames_read (ls : List (List UInt8)) (hc : ls.all fits = true) (t : List UInt8) : ∀ k, k ≤ ls.length →
    stt (framesL zlink ls ++ t) k = (headL zlink (ls.take k), (framesL zlink (ls.take k)).length) ∧ recs (framesL zlink ls ++ t) k = ls.take k ∧ ∀ j, j < k → isGood (framesL zlink ls ++ t) j = true
  | 0, _ => ⟨rfl, rfl, fun j hj => by omega⟩
  | k + 1, h => by
    have hk : k < ls.length := h
    obtain ⟨h1, h2, h3⟩ := frames_read ls hc t k (by omega)
    have hr := all_take hc hk
    have hS : framesL zlink ls ++ t = framesL zlink (ls.take k) ++ (text ls[k] ++ (nextL (headL zlink (ls.take k)) ls[k] ++ (framesL (headL zlink (ls.take (k + 1))) (ls.drop (k + 1)) ++ t))) := by
      conv => lhs; rw [← List.take_append_drop (k + 1) ls, framesL_append, framesL_next ls zlink k hk]
      simp only [frameL, List.append_assoc]
    have hg : good (framesL zlink ls ++ t) (headL zlink (ls.take k)) (framesL zlink (ls.take k)).length = some (ls[k], (text ls[k]).length) := by
      rw [hS]
      unfold good
      rw [List.drop_left, read_text_back' (small8 hr) (by omega)]
      simp only
      rw [if_pos]
      refine ⟨trivial, by simp only [List.length_append, nextL_length]; omega, ?_⟩
      rw [← List.drop_drop, List.drop_left, List.drop_left, List.take_append_of_le_length (Nat.le_of_eq (nextL_length _ _).symm), List.take_of_length_le (Nat.le_of_eq (nextL_length _ _))]
    have hst : good (framesL zlink ls ++ t) (stt (framesL zlink ls ++ t) k).1 (stt (framesL zlink ls ++ t) k).2 = some (ls[k], (text ls[k]).length) := by rw [h1]; exact hg
    refine ⟨?_, ?_, ?_⟩
    · simp only [stt, hst]
      rw [h1, headL_next ls zlink k hk, framesL_next ls zlink k hk, List.length_append, frameL_length]
      simp only [Nat.add_assoc]
    · rw [recs, h2]
      unfold recAt
      rw [hst, List.take_succ_eq_append_getElem hk]
    · intro j hj
      by_cases hjk : j = k
      · subst hjk
        unfold isGood
        rw [hst]
        rfl
      · exact h3 j (by omega)

/-- frames, and behind them none: the frames' records are scanned. -/
theorem scan_tail (ls : List (List UInt8)) (hc : ls.all fits = true) (t : List UInt8) (hb : good (framesL zlink ls ++ t) (headL zlink ls) (framesL zlink ls).length = none) :
    scanR (framesL zlink ls ++ t) = (ls, headL zlink ls, (framesL zlink ls).length) := by
  obtain ⟨h1, h2, h3⟩ := frames_read ls hc t ls.length (Nat.le_refl _)
  rw [List.take_length] at h1 h2
  have hend : isGood (framesL zlink ls ++ t) ls.length = false := by unfold isGood; rw [h1]; simp only; rw [hb]; rfl
  have hm : many (framesL zlink ls ++ t) = ls.length := by
    have e1 := many_end (framesL zlink ls ++ t)
    have e2 := many_good (framesL zlink ls ++ t)
    rcases Nat.lt_trichotomy (many (framesL zlink ls ++ t)) ls.length with h | h | h
    · rw [h3 _ h] at e1; cases e1
    · exact h
    · rw [e2 _ h] at hend; cases hend
  unfold scanR
  rw [hm, h1, h2]

theorem good_end (A lk : List UInt8) : good (A ++ []) lk A.length = none := by
  unfold good
  rw [List.drop_left]
  rw [if_neg]
  rintro ⟨h, _⟩
  exact absurd h (by decide)
theorem scan_whole (ls : List (List UInt8)) (hc : ls.all fits = true) : scanR (framesL zlink ls) = (ls, headL zlink ls, (framesL zlink ls).length) := by
  have := scan_tail ls hc [] (good_end _ _)
  rwa [List.append_nil] at this
theorem scan_again {s : List UInt8} {a : List (List UInt8)} {b : List UInt8} {c : Nat} (h : scanR s = (a, b, c)) : scanR (s.take c) = (a, b, c) := by
  obtain ⟨h1, h2, h3, h4, _⟩ := scan_frames h
  have hc : a.all fits = true := by
    unfold chk at h3
    split at h3
    · assumption
    · cases h3
  have := scan_whole a hc
  rw [h1, h2] at this
  rw [this, List.length_take, Nat.min_eq_left h4]

/-- a frame that is cut is none. -/
theorem good_torn (A lk r : List UInt8) (hr : r.length ≤ 8192) (j : Nat) (hj : j < (frameL lk r).length) : good (A ++ (frameL lk r).take j) lk A.length = none := by
  cases hg : good (A ++ (frameL lk r).take j) lk A.length with
  | none => rfl
  | some x =>
    exfalso
    obtain ⟨q, n⟩ := x
    obtain ⟨g1, g2, g3⟩ := good_some hg
    rw [List.drop_left] at g1
    obtain ⟨t1, t2, t3, t4⟩ := readText_ok g1
    have hjl : ((frameL lk r).take j).length = j := by rw [List.length_take]; omega
    rw [List.length_append, hjl] at g2
    rw [frameL_length] at hj
    have hn : n < (text r).length := by omega
    have hq : text q = (text r).take n := by
      rw [t4, List.take_take, Nat.min_eq_left (by omega)]
      unfold frameL
      rw [List.take_append_of_le_length (by omega)]
    have e1 := read_text_back' (small8 (r := q) (by omega)) (m := 8192) (by omega) ((text r).drop n)
    rw [hq, List.take_append_drop] at e1
    have e2 := read_text_back' (small8 hr) (m := 8192) (by omega) []
    rw [List.append_nil, e1] at e2
    have := congrArg (fun p => p.2.1) e2
    simp only [List.length_take] at this
    omega

theorem total_small (ls : List (List UInt8)) (h : ls.all fits = true) : total ls ≤ 8192 * ls.length := by
  induction ls with
  | nil => simp [total]
  | cons r rs ih =>
    rw [List.all_cons, Bool.and_eq_true] at h
    have h1 := ih h.2
    have h2 := h.1
    unfold fits at h2
    rw [decide_eq_true_iff] at h2
    simp only [total, List.length_cons]
    omega
end Go.Proofs.YtdmoolfalcdbjaaDoor.Chain

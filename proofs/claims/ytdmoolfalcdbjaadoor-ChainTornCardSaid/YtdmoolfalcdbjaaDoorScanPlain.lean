/- Plain scanning of frames. No program in sight. -/
import Derived.Test.YtdmoolfalcdbjaaDoorChainPlain
namespace Go.Proofs.YtdmoolfalcdbjaaDoor.Chain
set_option linter.unusedVariables false
set_option linter.unusedSimpArgs false
open Sha Oct

/-- the record whose frame stands at a place behind a link, and how many bytes it has as a text; none, if no right frame stands there. -/
def good (s link : List UInt8) (at' : Nat) : Option (List UInt8 × Nat) :=
  if (readText (s.drop at') 8192).2.2 = 0 ∧ at' + (readText (s.drop at') 8192).2.1 + 32 ≤ s.length ∧ (s.drop (at' + (readText (s.drop at') 8192).2.1)).take 32 = nextL link (readText (s.drop at') 8192).1
  then some ((readText (s.drop at') 8192).1, (readText (s.drop at') 8192).2.1) else none

/-- the link and the place behind k right frames. -/
def stt (s : List UInt8) : Nat → List UInt8 × Nat
  | 0 => (zlink, 0)
  | k + 1 => match good s (stt s k).1 (stt s k).2 with
    | some (r, n) => (nextL (stt s k).1 r, (stt s k).2 + n + 32)
    | none => stt s k
/-- the record of frame k. -/
def recAt (s : List UInt8) (k : Nat) : List UInt8 := match good s (stt s k).1 (stt s k).2 with
  | some (r, _) => r
  | none => []
def recs (s : List UInt8) : Nat → List (List UInt8)
  | 0 => []
  | k + 1 => recs s k ++ [recAt s k]
def isGood (s : List UInt8) (k : Nat) : Bool := (good s (stt s k).1 (stt s k).2).isSome
def cnt (s : List UInt8) : Nat → Nat → Nat
  | 0, k => k
  | f + 1, k => if isGood s k then cnt s f (k + 1) else k
/-- how many right frames there are. -/
def many (s : List UInt8) : Nat := cnt s s.length 0
/-- what Scan answers. -/
def scanR (s : List UInt8) : List (List UInt8) × List UInt8 × Nat := (recs s (many s), (stt s (many s)).1, (stt s (many s)).2)

theorem good_some {s link : List UInt8} {p : Nat} {r : List UInt8} {n : Nat} (h : good s link p = some (r, n)) :
    readText (s.drop p) 8192 = (r, n, 0) ∧ p + n + 32 ≤ s.length ∧ (s.drop (p + n)).take 32 = nextL link r := by
  unfold good at h
  split at h
  · rename_i hc
    simp only [Option.some.injEq, Prod.mk.injEq] at h
    obtain ⟨h1, h2⟩ := h
    obtain ⟨a, b, c⟩ := hc
    rw [h1, h2] at c
    rw [h2] at b
    exact ⟨by rw [← h1, ← h2, ← a], b, c⟩
  · cases h
theorem good_none {s link : List UInt8} {p : Nat} (h : good s link p = none) {r : List UInt8} {n e : Nat} (hr : readText (s.drop p) 8192 = (r, n, e)) :
    e ≠ 0 ∨ s.length < p + n + 32 ∨ (s.drop (p + n)).take 32 ≠ nextL link r := by
  unfold good at h
  rw [hr] at h
  split at h
  · cases h
  · rename_i hc
    simp only [not_and] at hc
    by_cases he : e = 0
    · by_cases hl : p + n + 32 ≤ s.length
      · exact .inr (.inr (hc he hl))
      · exact .inr (.inl (by omega))
    · exact .inl he
theorem readText_ok {l : List UInt8} {m : Int} {t : List UInt8} {n : Nat} (h : readText l m = (t, n, 0)) : 1 ≤ n ∧ n ≤ l.length ∧ t.length ≤ max m 0 ∧ text t = l.take n := by
  have := read_text_front h
  exact ⟨this.1, this.2.1, this.2.2.1, this.2.2.2.1⟩
theorem link_length (s : List UInt8) : ∀ k, (stt s k).1.length = 32
  | 0 => zlink_length
  | k + 1 => by
    simp only [stt]
    split
    · exact nextL_length _ _
    · exact link_length s k
theorem stt_good {s : List UInt8} {k : Nat} (h : isGood s k = true) : ∃ r n, good s (stt s k).1 (stt s k).2 = some (r, n) ∧ recAt s k = r ∧ stt s (k + 1) = (nextL (stt s k).1 r, (stt s k).2 + n + 32) := by
  unfold isGood at h
  obtain ⟨⟨r, n⟩, hg⟩ := Option.isSome_iff_exists.1 h
  exact ⟨r, n, hg, by unfold recAt; rw [hg], by simp only [stt, hg]⟩
theorem at_le (s : List UInt8) : ∀ k, (stt s k).2 ≤ s.length
  | 0 => Nat.zero_le _
  | k + 1 => by
    simp only [stt]
    split
    · rename_i r n hg
      have := (good_some hg).2.1
      simp only
      omega
    · exact at_le s k
theorem at_ge (s : List UInt8) : ∀ k, (∀ j, j < k → isGood s j = true) → 33 * k ≤ (stt s k).2
  | 0, _ => Nat.zero_le _
  | k + 1, h => by
    obtain ⟨r, n, hg, _, hs⟩ := stt_good (h k (by omega))
    have := at_ge s k (fun j hj => h j (by omega))
    have := (readText_ok (good_some hg).1).1
    rw [hs]
    simp only
    omega
theorem cnt_spec (s : List UInt8) : ∀ (f k : Nat), s.length ≤ f + 33 * k → (∀ j, j < k → isGood s j = true) → (∀ j, j < cnt s f k → isGood s j = true) ∧ isGood s (cnt s f k) = false
  | 0, k, hf, h => by
    refine ⟨h, ?_⟩
    rw [cnt]
    cases hg : isGood s k with
    | false => rfl
    | true =>
      exfalso
      have := at_ge s (k + 1) (fun j hj => by
        by_cases e : j = k
        · subst e; exact hg
        · exact h j (by omega))
      have := at_le s (k + 1)
      omega
  | f + 1, k, hf, h => by
    rw [cnt]
    cases hg : isGood s k with
    | false => simp only [Bool.false_eq_true, if_false]; exact ⟨h, hg⟩
    | true =>
      simp only [if_true]
      exact cnt_spec s f (k + 1) (by omega) (fun j hj => by
        by_cases e : j = k
        · subst e; exact hg
        · exact h j (by omega))
theorem many_good (s : List UInt8) : ∀ j, j < many s → isGood s j = true := (cnt_spec s s.length 0 (by omega) (fun j hj => by omega)).1
theorem many_end (s : List UInt8) : isGood s (many s) = false := (cnt_spec s s.length 0 (by omega) (fun j hj => by omega)).2
theorem many_le (s : List UInt8) : 33 * many s ≤ s.length := Nat.le_trans (at_ge s (many s) (many_good s)) (at_le s (many s))
theorem recs_length (s : List UInt8) : ∀ k, (recs s k).length = k
  | 0 => rfl
  | k + 1 => by simp only [recs, List.length_append, recs_length s k, List.length_cons, List.length_nil]
theorem rec_length (s : List UInt8) (k : Nat) (h : isGood s k = true) : (recAt s k).length ≤ 8192 := by
  obtain ⟨r, n, hg, hr, _⟩ := stt_good h
  rw [hr]
  have := (readText_ok (good_some hg).1).2.2.1
  omega
end Go.Proofs.YtdmoolfalcdbjaaDoor.Chain

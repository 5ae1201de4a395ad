/- Plain laws about reading rows of texts. No program in sight. -/
import Derived.Test.YtegcpedgdldodaaOctBackP
namespace Go.Proofs.Ytegcpedgdldodaa.Oct
set_option linter.unusedVariables false
set_option linter.unusedSimpArgs false

theorem readText_okR {l : List UInt8} {m : Int} {t : List UInt8} {n : Nat} (h : readText l m = (t, n, 0)) : 1 ≤ n ∧ n ≤ l.length ∧ t.length ≤ max m 0 ∧ text t = l.take n := by
  have := read_text_front h
  exact ⟨this.1, this.2.1, this.2.2.1, this.2.2.2.1⟩
theorem readText_failR {l : List UInt8} {m : Int} {t : List UInt8} {n e : Nat} (h : readText l m = (t, n, e)) (he : e ≠ 0) : n = 0 ∧ t = [] ∧ e < 100 := by
  unfold readText at h
  split at h
  · rename_i hx
    have := readNum_fail (l := l) (v := (readNum l).1) (n := (readNum l).2.1) (x := (readNum l).2.2) rfl hx
    simp only [Prod.mk.injEq] at h
    obtain ⟨rfl, rfl, rfl⟩ := h
    exact ⟨rfl, rfl, by omega⟩
  · split at h
    · simp only [Prod.mk.injEq] at h
      obtain ⟨rfl, rfl, rfl⟩ := h
      exact ⟨rfl, rfl, by omega⟩
    · split at h
      · simp only [Prod.mk.injEq] at h
        obtain ⟨rfl, rfl, rfl⟩ := h
        exact ⟨rfl, rfl, by omega⟩
      · simp only [Prod.mk.injEq] at h
        obtain ⟨_, _, rfl⟩ := h
        exact absurd rfl he
theorem readText_le (l : List UInt8) (m : Int) : (readText l m).2.1 ≤ l.length ∧ (readText l m).2.2 < 100 := by
  rcases h : readText l m with ⟨t, n, e⟩
  by_cases he : e = 0
  · subst he
    exact ⟨(readText_okR h).2.1, by simp⟩
  · obtain ⟨rfl, rfl, h3⟩ := readText_failR h he
    exact ⟨Nat.zero_le _, h3⟩

/-- the place behind k texts. -/
def plc (s : List UInt8) (m : Int) : Nat → Nat
  | 0 => 0
  | k + 1 => plc s m k + (readText (s.drop (plc s m k)) m).2.1
/-- text k. -/
def tx (s : List UInt8) (m : Int) (k : Nat) : List UInt8 := (readText (s.drop (plc s m k)) m).1
/-- what is wrong with text k. -/
def er (s : List UInt8) (m : Int) (k : Nat) : Nat := (readText (s.drop (plc s m k)) m).2.2
/-- the first k texts. -/
def txs (s : List UInt8) (m : Int) : Nat → List (List UInt8)
  | 0 => []
  | k + 1 => txs s m k ++ [tx s m k]
/-- what is wrong with the first of k texts with which anything is. -/
def ferr (s : List UInt8) (m : Int) : Nat → Nat
  | 0 => 0
  | k + 1 => if ferr s m k ≠ 0 then ferr s m k else er s m k
/-- a row of c texts, how many bytes it has, the error's number. -/
def readRow (s : List UInt8) (c : Nat) (m : Int) : List (List UInt8) × Nat × Nat := if ferr s m c = 0 then (txs s m c, plc s m c, 0) else ([], 0, ferr s m c)

section
variable (s : List UInt8) (m : Int)
theorem plc_le : ∀ k, plc s m k ≤ s.length
  | 0 => Nat.zero_le _
  | k + 1 => by
    have h1 := plc_le k
    have h2 := (readText_le (s.drop (plc s m k)) m).1
    rw [List.length_drop] at h2
    simp only [plc]
    omega
theorem er_lt (k : Nat) : er s m k < 100 := (readText_le _ m).2
theorem txs_length : ∀ k, (txs s m k).length = k
  | 0 => rfl
  | k + 1 => by simp only [txs, List.length_append, txs_length k, List.length_singleton]
theorem ferr_succ {k : Nat} (h : ferr s m k = 0) : ferr s m (k + 1) = er s m k := by simp [ferr, h]
theorem ferr_zero : ∀ (K k : Nat), ferr s m K = 0 → k < K → er s m k = 0 ∧ ferr s m k = 0
  | 0, k, _, h => by omega
  | K + 1, k, h0, h => by
    by_cases hK : ferr s m K = 0
    · rw [ferr_succ s m hK] at h0
      rcases Nat.lt_or_ge k K with h1 | h1
      · exact ferr_zero K k hK h1
      · obtain rfl : k = K := by omega
        exact ⟨h0, hK⟩
    · simp [ferr, hK] at h0
theorem ferr_stop {k : Nat} (h : ferr s m k ≠ 0) : ∀ j, ferr s m (k + j) = ferr s m k
  | 0 => rfl
  | j + 1 => by
    have := ferr_stop h j
    show (if ferr s m (k + j) ≠ 0 then ferr s m (k + j) else er s m (k + j)) = _
    rw [this, if_pos h]
theorem plc_ge : ∀ k, ferr s m k = 0 → k ≤ plc s m k
  | 0, _ => Nat.zero_le _
  | k + 1, h => by
    obtain ⟨h1, h2⟩ := ferr_zero s m (k + 1) k h (Nat.lt_succ_self k)
    have h3 := plc_ge k h2
    rcases hr : readText (s.drop (plc s m k)) m with ⟨t, n, e⟩
    have he : e = 0 := by unfold er at h1; rw [hr] at h1; exact h1
    subst he
    have := (readText_okR hr).1
    simp only [plc, hr]
    omega
/-- where the reading ends. -/
theorem row_end : ∀ c, ∃ K, K ≤ c ∧ ferr s m K = 0 ∧ (er s m K ≠ 0 ∨ (er s m K = 0 ∧ K = c))
  | 0 => ⟨0, Nat.le_refl _, rfl, by by_cases h : er s m 0 = 0; exact .inr ⟨h, rfl⟩; exact .inl h⟩
  | c + 1 => by
    obtain ⟨K, h1, h2, h3⟩ := row_end c
    rcases h3 with h | ⟨h, rfl⟩
    · exact ⟨K, by omega, h2, .inl h⟩
    · refine ⟨K + 1, Nat.le_refl _, by rw [ferr_succ s m h2]; exact h, ?_⟩
      by_cases h : er s m (K + 1) = 0
      · exact .inr ⟨h, rfl⟩
      · exact .inl h
theorem readRow_err {K c : Nat} (h : K < c) (h0 : ferr s m K = 0) (he : er s m K ≠ 0) : readRow s c m = ([], 0, er s m K) := by
  have h1 := ferr_succ s m h0
  have h2 := ferr_stop s m (k := K + 1) (by rw [h1]; exact he) (c - (K + 1))
  rw [show K + 1 + (c - (K + 1)) = c by omega, h1] at h2
  unfold readRow
  rw [h2, if_neg he]
theorem readRow_ok {K : Nat} (h0 : ferr s m K = 0) (he : er s m K = 0) : readRow s (K + 1) m = (txs s m K ++ [tx s m K], plc s m (K + 1), 0) := by
  unfold readRow
  rw [ferr_succ s m h0, if_pos he]
  rfl
end
end Go.Proofs.Ytegcpedgdldodaa.Oct

/- Plain laws: what was put is read, and what is read is what would be put. No program in sight. -/
import Derived.Test.YtegcpedgdldodaaOctOrd
namespace Go.Proofs.Ytegcpedgdldodaa.Oct
set_option linter.unusedVariables false
set_option linter.unusedSimpArgs false

theorem num_length_pos (v : Nat) : 1 ≤ (num v).length := by
  unfold num
  split <;> simp

theorem read_num_back {v : Nat} (hv : v < 256 ^ 8) (s : List UInt8) : readNum (num v ++ s) = (v, (num v).length, 0) := by
  by_cases h : v < 248
  · rw [num_short h]
    have h1 : (UInt8.ofNat v).toNat = v := by rw [UInt8.toNat_ofNat']; omega
    rw [show [UInt8.ofNat v] ++ s = UInt8.ofNat v :: s from rfl, readNum_short _ _ (by omega), h1]
    rfl
  · have h8 := nd_le v
    have hp := nd_pos (v := v) (by omega)
    have hc : (UInt8.ofNat (247 + nd v)).toNat = nd v + 247 := by rw [UInt8.toNat_ofNat']; omega
    have hval : val (dg (nd v) v) = v := by
      rw [val_dg]
      exact Nat.mod_eq_of_lt (ndF_upper 8 v hv)
    have ht : (dg (nd v) v ++ s).take (nd v) = dg (nd v) v := by
      have := List.take_left (l₁ := dg (nd v) v) (l₂ := s)
      rwa [dg_length] at this
    have hag := readNum_again (r := dg (nd v) v ++ s) (c := UInt8.ofNat (247 + nd v)) hc hp h8 (by rw [List.length_append, dg_length]; omega)
    rw [ht, hval, num_long h] at hag
    rw [num_long h, show (UInt8.ofNat (247 + nd v) :: dg (nd v) v) ++ s = UInt8.ofNat (247 + nd v) :: (dg (nd v) v ++ s) from rfl,
      readNum_ok _ _ (nd v) hc hp (by rw [List.length_append, dg_length]; omega) (by rw [ht, hval]; exact hag.1 rfl), ht, hval]
    simp [dg_length]

theorem read_num_front {s : List UInt8} {c k : Nat} (h : readNum s = (c, k, 0)) : 1 ≤ k ∧ k ≤ s.length ∧ k ≤ 9 ∧ c < 256 ^ 8 ∧ num c = s.take k := by
  obtain ⟨h1, h2, h9, h3⟩ := readNum_bounds h
  refine ⟨h1, h2, h9, h3, ?_⟩
  cases s with
  | nil => simp [readNum] at h
  | cons b r =>
    have hb := b.toNat_lt
    simp only [readNum] at h
    split at h
    · simp only [Prod.mk.injEq] at h
      obtain ⟨rfl, rfl, _⟩ := h
      rw [num_short (by omega)]
      simp
    · split at h
      · simp at h
      · split at h
        · simp at h
        · rename_i hf
          simp only [Prod.mk.injEq] at h
          obtain ⟨rfl, rfl, _⟩ := h
          have := (readNum_again (r := r) (n := b.toNat - 247) (c := b) (by omega) (by omega) (by omega) (by omega)).2 hf
          rw [this]
          rfl

theorem text_length (t : List UInt8) : (text t).length = (num t.length).length + t.length := by unfold text; rw [List.length_append]

theorem read_text_back {t : List UInt8} (ht : t.length < 256 ^ 8) (s : List UInt8) : readText (text t ++ s) t.length = (t, (text t).length, 0) := by
  have h1 : readNum (text t ++ s) = (t.length, (num t.length).length, 0) := by
    unfold text
    rw [List.append_assoc]
    exact read_num_back ht _
  unfold readText
  rw [h1, if_neg (by simp), if_neg (by simp only; omega), if_neg (by simp only [List.length_append, text_length]; omega)]
  simp only [text_length, Prod.mk.injEq, and_true]
  unfold text
  rw [List.append_assoc, List.drop_left, List.take_left]

theorem read_text_front {s : List UInt8} {most : Int} {d : List UInt8} {j : Nat} (h : readText s most = (d, j, 0)) :
    1 ≤ j ∧ j ≤ s.length ∧ (d.length : Int) ≤ max most 0 ∧ text d = s.take j ∧ d.length < 256 ^ 8 := by
  rcases hr : readNum s with ⟨v, n, x⟩
  unfold readText at h
  rw [hr] at h
  simp only at h
  split at h
  · rename_i hx; simp only [Prod.mk.injEq] at h; exact absurd h.2.2 hx
  · rename_i hx
    obtain rfl : x = 0 := by omega
    obtain ⟨h1, h2, h9, h3, h4⟩ := read_num_front hr
    split at h
    · simp at h
    · split at h
      · simp at h
      · simp only [Prod.mk.injEq] at h
        obtain ⟨rfl, rfl, _⟩ := h
        have hl : ((s.drop n).take v).length = v := by rw [List.length_take, List.length_drop]; omega
        refine ⟨by omega, by omega, by rw [hl]; omega, ?_, by rw [hl]; exact h3⟩
        unfold text
        rw [hl, h4, List.take_add]
end Go.Proofs.Ytegcpedgdldodaa.Oct

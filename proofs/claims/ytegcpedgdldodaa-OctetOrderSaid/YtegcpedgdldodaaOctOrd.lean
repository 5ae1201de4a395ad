/- Plain laws: numbers stand in the order of their bytes, and no number's bytes begin with another's. No program in sight. -/
import Derived.Test.YtegcpedgdldodaaOctPlain
namespace Go.Proofs.Ytegcpedgdldodaa.Oct
set_option linter.unusedVariables false
set_option linter.unusedSimpArgs false

/-- two rows of bytes part: behind one front the first has the smaller byte. -/
def Parts (l m : List UInt8) : Prop := ∃ p a b x y, l = p ++ a :: x ∧ m = p ++ b :: y ∧ a < b

theorem Parts.cons {l m : List UInt8} (c : UInt8) (h : Parts l m) : Parts (c :: l) (c :: m) := by
  obtain ⟨p, a, b, x, y, rfl, rfl, hab⟩ := h
  exact ⟨c :: p, a, b, x, y, rfl, rfl, hab⟩
theorem Parts.append {l m : List UInt8} (h : Parts l m) (s t : List UInt8) : Parts (l ++ s) (m ++ t) := by
  obtain ⟨p, a, b, x, y, rfl, rfl, hab⟩ := h
  exact ⟨p, a, b, x ++ s, y ++ t, by simp, by simp, hab⟩
theorem Parts.less {l m : List UInt8} (h : Parts l m) : Op.bytesLess l m = true := by
  obtain ⟨p, a, b, x, y, rfl, rfl, hab⟩ := h
  induction p with
  | nil => simp [Op.bytesLess, hab]
  | cons c p ih => simp [Op.bytesLess, ih]
theorem Parts.not_less {l m : List UInt8} (h : Parts l m) : Op.bytesLess m l = false := by
  obtain ⟨p, a, b, x, y, rfl, rfl, hab⟩ := h
  induction p with
  | nil =>
    simp only [List.nil_append, Op.bytesLess]
    have h1 : decide (b < a) = false := by simpa using UInt8.le_of_lt hab
    have h2 : (b == a) = false := by
      rw [beq_eq_false_iff_ne]; intro e; subst e; exact UInt8.lt_irrefl _ hab
    rw [h1, h2]; rfl
  | cons c p ih => simp [Op.bytesLess, ih, UInt8.lt_irrefl]
theorem Parts.ne {l m : List UInt8} (h : Parts l m) : l ≠ m := by
  intro e
  have h1 := h.less
  have h2 := h.not_less
  rw [e] at h1 h2
  rw [h1] at h2
  cases h2
/-- neither is the other's front. -/
theorem Parts.not_front {l m : List UInt8} (h : Parts l m) : (∀ z, m ≠ l ++ z) ∧ (∀ z, l ≠ m ++ z) := by
  refine ⟨fun z e => ?_, fun z e => ?_⟩
  · have := (h.append z []).ne
    rw [List.append_nil] at this
    exact this e.symm
  · have := (h.append [] z).ne
    rw [List.append_nil] at this
    exact this e

theorem dg_mod : ∀ k v, dg k v = dg k (v % 256 ^ k)
  | 0, _ => rfl
  | k + 1, v => by
    rw [dg, dg, dg_mod k (v / 256), dg_mod k (v % 256 ^ (k + 1) / 256)]
    have h1 : v % 256 ^ (k + 1) / 256 = v / 256 % 256 ^ k := by rw [Nat.pow_succ, Nat.mul_comm, Nat.mod_mul_right_div_self]
    have h2 : UInt8.ofNat (v % 256 ^ (k + 1)) = UInt8.ofNat v := by
      apply UInt8.toNat_inj.1
      simp only [UInt8.toNat_ofNat']
      rw [Nat.pow_succ, Nat.mul_comm]
      exact Nat.mod_mul_right_mod v 256 (256 ^ k)
    rw [h1, h2, Nat.mod_mod]

theorem ofNat_lt {a b : Nat} (ha : a < 256) (hb : b < 256) (h : a < b) : UInt8.ofNat a < UInt8.ofNat b := by
  rw [UInt8.lt_iff_toNat_lt, UInt8.toNat_ofNat', UInt8.toNat_ofNat']; omega

theorem dg_parts : ∀ k v w, v < w → w < 256 ^ k → Parts (dg k v) (dg k w)
  | 0, v, w, h, hw => by simp at hw; omega
  | k + 1, v, w, h, hw => by
    rw [dg_succ, dg_succ]
    have hq : v / 256 ^ k ≤ w / 256 ^ k := Nat.div_le_div_right (by omega)
    have hp : 0 < 256 ^ k := Nat.pow_pos (by omega)
    have hw2 : w / 256 ^ k < 256 := by rw [Nat.div_lt_iff_lt_mul hp, Nat.mul_comm, ← Nat.pow_succ]; exact hw
    rcases Nat.lt_or_ge (v / 256 ^ k) (w / 256 ^ k) with h1 | h1
    · exact ⟨[], _, _, _, _, rfl, rfl, ofNat_lt (by omega) hw2 h1⟩
    · have he : v / 256 ^ k = w / 256 ^ k := by omega
      rw [he, dg_mod k v, dg_mod k w]
      refine Parts.cons _ (dg_parts k _ _ ?_ (Nat.mod_lt _ hp))
      have e1 := Nat.div_add_mod v (256 ^ k)
      have e2 := Nat.div_add_mod w (256 ^ k)
      rw [he] at e1
      omega

theorem nd_mono {v w : Nat} (hw : w < 256 ^ 8) (h : v ≤ w) : nd v ≤ nd w := by
  rcases Nat.lt_or_ge (nd w) (nd v) with h1 | h1
  · have h2 := nd_lower h1
    have h3 := nd_upper hw
    have := Nat.div_le_div_right (c := 256 ^ nd w) h
    omega
  · exact h1
theorem nd_pos {v : Nat} (h : 0 < v) : 1 ≤ nd v := by
  unfold nd
  simp only [ndF]
  rw [if_neg (by omega)]
  omega

theorem num_parts {v w : Nat} (hw : w < 256 ^ 8) (h : v < w) : Parts (num v) (num w) := by
  have h8 := nd_le w
  by_cases h1 : w < 248
  · rw [num_short h1, num_short (by omega)]
    exact ⟨[], _, _, _, _, rfl, rfl, ofNat_lt (by omega) (by omega) h⟩
  · have hp := nd_pos (v := w) (by omega)
    rw [num_long h1]
    by_cases h2 : v < 248
    · rw [num_short h2]
      exact ⟨[], _, _, _, _, rfl, rfl, ofNat_lt (by omega) (by omega) (by omega)⟩
    · rw [num_long h2]
      have hm := nd_mono hw (Nat.le_of_lt h)
      rcases Nat.lt_or_ge (nd v) (nd w) with h3 | h3
      · exact ⟨[], _, _, _, _, rfl, rfl, ofNat_lt (by omega) (by omega) (by omega)⟩
      · have he : nd v = nd w := by omega
        rw [he]
        exact Parts.cons _ (dg_parts _ _ _ h (ndF_upper 8 w hw))

theorem num_less {v w : Nat} (hv : v < 256 ^ 8) (hw : w < 256 ^ 8) (hne : v ≠ w) (s t : List UInt8) : Op.bytesLess (num v ++ s) (num w ++ t) = decide (v < w) := by
  rcases Nat.lt_or_ge v w with h | h
  · rw [((num_parts hw h).append s t).less, decide_eq_true h]
  · rw [((num_parts hv (by omega : w < v)).append t s).not_less, decide_eq_false (by omega)]
theorem bytesLess_irrefl : ∀ l : List UInt8, Op.bytesLess l l = false
  | [] => rfl
  | c :: l => by simp [Op.bytesLess, UInt8.lt_irrefl, bytesLess_irrefl l]
theorem num_less' {v w : Nat} (hv : v < 256 ^ 8) (hw : w < 256 ^ 8) : Op.bytesLess (num v) (num w) = decide (v < w) := by
  by_cases h : v = w
  · subst h; simp [bytesLess_irrefl]
  · have := num_less hv hw h [] []
    simpa using this
theorem num_inj {v w : Nat} (hv : v < 256 ^ 8) (hw : w < 256 ^ 8) : num v = num w ↔ v = w := by
  constructor
  · intro h
    rcases Nat.lt_trichotomy v w with h1 | h1 | h1
    · exact absurd h (num_parts hw h1).ne
    · exact h1
    · exact absurd h.symm (num_parts hv h1).ne
  · rintro rfl; rfl
/-- a number's bytes begin another's only where the two are one. -/
theorem num_front {v w : Nat} (hv : v < 256 ^ 8) (hw : w < 256 ^ 8) {z y : List UInt8} (h : num v ++ z = num w ++ y) : v = w ∧ z = y := by
  have : v = w := by
    rcases Nat.lt_trichotomy v w with h1 | h1 | h1
    · exact absurd h ((num_parts hw h1).append z y).ne
    · exact h1
    · exact absurd h.symm ((num_parts hv h1).append y z).ne
  subst this
  exact ⟨rfl, List.append_cancel_left h⟩
end Go.Proofs.Ytegcpedgdldodaa.Oct

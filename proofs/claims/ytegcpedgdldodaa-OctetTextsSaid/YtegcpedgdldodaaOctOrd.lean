/- Plain laws: numbers stand in the order of their bytes, and no number's bytes begin with another's. No program in sight. -/
import Derived.Test.YtegcpedgdldodaaOctPlain
namespace Go.Proofs.Ytegcpedgdldodaa.Oct
set_option linter.unusedVariables false
set_option linter.unusedSimpArgs false

/-- two rows of bytes part: behind one front the first has the smaller byte. -/
def Parts (l m : List UInt8) : Prop := ∃ p a b x y, l = p ++ a :: x ∧ m = p ++ b :: y ∧ a < b

theorem Parts.cons {l m : List UInt8} (c : UInt8) (h : Parts l m) : Parts (c :: l) (c :: m) := by
  obtain ⟨p, a, b, x, y, rfl, rfl, hab⟩ := h
  exact ⟨c :: p, a, b, x, y, rfl, rfl, hab⟩
theorem Parts.append {l m : List UInt8} (h : Parts l m) (s t : List UInt8) : Parts (l ++ s) (m ++ t) := by
  obtain ⟨p, a, b, x, y, rfl, rfl, hab⟩ := h
  exact ⟨p, a, b, x ++ s, y ++ t, by simp, by simp, hab⟩
theorem Parts.less {l m : List UInt8} (h : Parts l m) : Op.bytesLess l m = true := by
  obtain ⟨p, a, b, x, y, rfl, rfl, hab⟩ := h
  induction p with
  | nil => simp [Op.bytesLess, hab]
  | cons c p ih => simp [Op.bytesLess, ih]
theorem Parts.not_less {l m : List UInt8} (h : Parts l m) : Op.bytesLess m l = false := by
  obtain ⟨p, a, b, x, y, rfl, rfl, hab⟩ := h
  induction p with
  | nil =>
    simp only [List.nil_append, Op.bytesLess]
    have h1 : decide (b < a) = false := by simpa using UInt8.le_of_lt hab
    have h2 : (b == a) = false := by
      rw [beq_eq_false_iff_ne]; intro e; subst e; exact UInt8.lt_irrefl _ hab
    rw [h1, h2]; rfl
  | cons c p ih => simp [Op.bytesLess, ih, UInt8.lt_irrefl]
theorem Parts.ne {l m : List UInt8} (h : Parts l m) : l ≠ m := by
  intro e
  have h1 := h.less
  have h2 := h.not_less
  rw [e] at h1 h2
  rw [h1] at h2
  cases h2
/-- neither is the other's front. -/
theorem Parts.not_front {l m : List UInt8} (h : Parts l m) : (∀ z, m ≠ l ++ z) ∧ (∀ z, l ≠ m ++ z) := by
  refine ⟨fun z e => ?_, fun z e => ?_⟩
  · have := (h.append z []).ne
    rw [List.append_nil] at this
    exact this e.symm
  · have := (h.append [] z).ne
    rw [List.append_nil] at this
    exact this e

theorem dg_mod : ∀ k v, dg k v = dg k (v % 256 ^ k)
  | 0, _ => rfl
  | k + 1, v => by
    rw [dg, dg, dg_mod k (v / 256), dg_mod k (v % 256 ^ (k + 1) / 256)]
    have h1 : v % 256 ^ (k + 1) / 256 = v / 256 % 256 ^ k := by rw [Nat.pow_succ, Nat.mul_comm, Nat.mod_mul_right_div_self]
    have h2 : UInt8.ofNat (v % 256 ^ (k + 1)) = UInt8.ofNat v := by
      apply UInt8.toNat_inj.1
      simp only [UInt8.toNat_ofNat']
      rw [Nat.pow_succ, Nat.mul_comm]
      exact Nat.mod_mul_right_mod v 256 (256 ^ k)
    rw [h1, h2, Nat.mod_mod]

theorem ofNat_lt {a b : Nat} (ha : a < 256) (hb : b < 256) (h : a < b) : UInt8.ofNat a < UInt8.ofNat b := by
  rw [UInt8.lt_iff_toNat_lt, UInt8.toNat_ofNat', UInt8.toNat_ofNat']; omega

theorem dg_parts : ∀ k v w, v < w → w < 256 ^ k → Parts (dg k v) (dg k w)
  | 0, v, w, h, hw => by simp at hw; omega
  | k + 1, v, w, h, hw => by
    rw [dg_succ, dg_succ]
    have hq : v / 256 ^ k ≤ w / 256 ^ k := Nat.div_le_div_right (by omega)
    have hp : 0 < 256 ^ k := Nat.pow_pos (by omega)
    have hw2 : w / 256 ^ k < 256 := by rw [Nat.div_lt_iff_lt_mul hp, Nat.mul_comm, ← Nat.pow_succ]; exact hw
    rcases Nat.lt_or_ge (v / 256 ^ k) (w / 256 ^ k) with h1 | h1
    · exact ⟨[], _, _, _, _, rfl, rfl, ofNat_lt (by omega) hw2 h1⟩
    · have he : v / 256 ^ k = w / 256 ^ k := by omega
      rw [he, dg_mod k v, dg_mod k w]
      refine Parts.cons _ (dg_parts k _ _ ?_ (Nat.mod_lt _ hp))
      have e1 := Nat.div_add_mod v (256 ^ k)
      have e2 := Nat.div_add_mod w (256 ^ k)
      rw [he] at e1
      omega

theorem nd_mono {v w : Nat} (hw : w < 256 ^ 8) (h : v ≤ w) : nd v ≤ nd w := by
  rcases Nat.lt_or_ge (nd w) (nd v) with h1 | h1
  · have h2 := nd_lower h1
    have h3 := nd_upper hw
    have := Nat.div_le_div_right (c := 256 ^ nd w) h
    omega
  · exact h1
theorem nd_pos {v : Nat} (h : 0 < v) : 1 ≤ nd v := by
  unfold nd
  simp only [ndF]
  rw [if_neg (by omega)]
  omega

theorem num_parts {v w : Nat} (hw : w < 256 ^ 8) (h : v < w) : Parts (num v) (num w) := by
  have h8 := nd_le w
  by_cases h1 : w < 248
  · rw [num_short h1, num_short (by omega)]
    exact ⟨[], _, _, _, _, rfl, rfl, ofNat_lt (by omega) (by omega) h⟩
  · have hp := nd_pos (v := w) (by omega)
    rw [num_long h1]
    by_cases h2 : v < 248
    · rw [num_short h2]
      exact ⟨[], _, _, _, _, rfl, rfl, ofNat_lt (by omega) (by omega) (by omega)⟩
    · rw [num_long h2]
      have hm := nd_mono hw (Nat.le_of_lt h)
      rcases Nat.lt_or_ge (nd v) (nd w) with h3 | h3
      · exact ⟨[], _, _, _, _, rfl, rfl, ofNat_lt (by omega) (by omega) (by omega)⟩
      · have he : nd v = nd w := by omega
        rw [he]
        exact Parts.cons _ (dg_parts _ _ _ h (ndF_upper 8 w hw))

theorem num_less {v w : Nat} (hv : v < 256 ^ 8) (hw : w < 256 ^ 8) (hne : v ≠ w) (s t : List UInt8) : Op.bytesLess (num v ++ s) (num w ++ t) = decide (v < w) := by
  rcases Nat.lt_or_ge v w with h | h
  · rw [((num_parts hw h).append s t).less, decide_eq_true h]
  · rw [((num_parts hv (by omega : w < v)).append t s).not_less, decide_eq_false (by omega)]
theorem bytesLess_irrefl : ∀ l : List UInt8, Op.bytesLess l l = false
  | [] => rfl
  | c :: l => by simp [Op.bytesLess, UInt8.lt_irrefl, bytesLess_irrefl l]
theorem num_less' {v w : Nat} (hv : v < 256 ^ 8) (hw : w < 256 ^ 8) : Op.bytesLess (num v) (num w) = decide (v < w) := by
  by_cases h : v = w
  · subst h; simp [bytesLess_irrefl]
  · have := num_less hv hw h [] []
    simpa using this
theorem num_inj {v w : Nat} (hv : v < 256 ^ 8) (hw : w < 256 ^ 8) : num v = num w ↔ v = w := by
  constructor
  · intro h
    rcases Nat.lt_trichotomy v w with h1 | h1 | h1
    · exact absurd h (num_parts hw h1).ne
    · exact h1
    · exact absurd h.symm (num_parts hv h1).ne
  · rintro rfl; rfl
theorem val_cons (b : UInt8) (l : List UInt8) : val (b :: l) = b.toNat * 256 ^ l.length + val l := by
  have h : ∀ (l : List UInt8) (a : Nat), valA a l = a * 256 ^ l.length + valA 0 l := by
    intro l
    induction l with
    | nil => intro a; simp [valA]
    | cons c l ih =>
      intro a
      simp only [valA, List.length_cons]
      rw [ih (a * 256 + c.toNat), ih (0 * 256 + c.toNat), Nat.pow_succ, Nat.zero_mul, Nat.zero_add, Nat.add_mul, Nat.mul_assoc, Nat.mul_comm 256]
      omega
  show valA (0 * 256 + b.toNat) l = _
  rw [h l]
  simp [val]
/-- what is put again is what was read just where the form is right. -/
theorem readNum_again {r : List UInt8} {n : Nat} {c : UInt8} (hc : c.toNat = n + 247) (h1 : 1 ≤ n) (h8 : n ≤ 8) (hr : n ≤ r.length) :
    (num (val (r.take n)) = c :: r.take n) ↔ ¬ (r.headD 0 = 0 ∨ val (r.take n) ≤ 247) := by
  obtain ⟨b, r, rfl⟩ : ∃ b s, r = b :: s := by
    cases r with
    | nil => simp at hr; omega
    | cons b s => exact ⟨b, s, rfl⟩
  obtain ⟨n, rfl⟩ : ∃ m, n = m + 1 := ⟨n - 1, by omega⟩
  have hl : (List.take n r).length = n := by rw [List.length_take]; simp only [List.length_cons] at hr; omega
  have hb := b.toNat_lt
  have hc' : c = UInt8.ofNat (247 + (n + 1)) := by
    apply UInt8.toNat_inj.1
    rw [hc, UInt8.toNat_ofNat']
    omega
  have hv8 : val (b :: List.take n r) < 256 ^ 8 := Nat.lt_of_lt_of_le (val_lt _) (Nat.pow_le_pow_right (by omega) (by rw [List.length_cons]; omega))
  rw [show List.take (n + 1) (b :: r) = b :: List.take n r from rfl, show (b :: r).headD 0 = b from rfl]
  constructor
  · rintro h (hz | hz)
    · subst hz
      have hv : val (0 :: List.take n r) = val (List.take n r) := by rw [val_cons]; simp
      have hlt := val_lt (List.take n r)
      rw [hl] at hlt
      by_cases hs : val (0 :: List.take n r) < 248
      · rw [num_short hs] at h; simp at h
      · rw [num_long hs] at h
        have hlen := congrArg List.length h
        simp only [List.length_cons, dg_length, hl] at hlen
        have hk : nd (val (0 :: List.take n r)) ≤ n := by
          rcases Nat.lt_or_ge n (nd (val (0 :: List.take n r))) with h2 | h2
          · have := nd_lower h2
            rw [hv, Nat.div_eq_of_lt hlt] at this
            omega
          · exact h2
        omega
    · rw [num_short (by omega)] at h
      simp at h
  · intro h
    have hb0 : b.toNat ≠ 0 := fun e => h (.inl (UInt8.toNat_inj.1 e))
    have hv : ¬ val (b :: List.take n r) < 248 := fun e => h (.inr (by omega))
    have hnd : nd (val (b :: List.take n r)) = n + 1 := by
      refine (nd_iff hv8 (fun i hi => ?_) ?_).symm
      · rw [val_cons, hl]
        have h1 : 256 ^ i ≤ 256 ^ n := Nat.pow_le_pow_right (by omega) (by omega)
        have h2 : 256 ^ n ≤ b.toNat * 256 ^ n := Nat.le_mul_of_pos_left _ (by omega)
        exact Nat.div_pos (by omega) (Nat.pow_pos (by omega))
      · refine Nat.div_eq_of_lt ?_
        have := val_lt (b :: List.take n r)
        rwa [List.length_cons, hl] at this
    rw [num_long hv, hnd, hc']
    have := dg_val (b :: List.take n r)
    rw [List.length_cons, hl] at this
    rw [this]

/-- a number's bytes begin another's only where the two are one. -/
theorem num_front {v w : Nat} (hv : v < 256 ^ 8) (hw : w < 256 ^ 8) {z y : List UInt8} (h : num v ++ z = num w ++ y) : v = w ∧ z = y := by
  have : v = w := by
    rcases Nat.lt_trichotomy v w with h1 | h1 | h1
    · exact absurd h ((num_parts hw h1).append z y).ne
    · exact h1
    · exact absurd h.symm ((num_parts hv h1).append y z).ne
  subst this
  exact ⟨rfl, List.append_cancel_left h⟩
end Go.Proofs.Ytegcpedgdldodaa.Oct

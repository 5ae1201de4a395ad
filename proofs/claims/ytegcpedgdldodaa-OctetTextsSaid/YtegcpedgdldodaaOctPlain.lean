/- Plain laws about numbers as bytes: digits to the base 256, the short form, and what is read back. No program in sight. -/
import Derived.WalkKit
namespace Go.Proofs.Ytegcpedgdldodaa.Oct
set_option linter.unusedVariables false
set_option linter.unusedSimpArgs false

/-- k digits of v to the base 256, the highest first. -/
def dg : Nat → Nat → List UInt8
  | 0, _ => []
  | k + 1, v => dg k (v / 256) ++ [UInt8.ofNat v]

/-- how many digits v has, at most f. -/
def ndF : Nat → Nat → Nat
  | 0, _ => 0
  | f + 1, v => if v = 0 then 0 else ndF f (v / 256) + 1

def nd (v : Nat) : Nat := ndF 8 v

def num (v : Nat) : List UInt8 := if v < 248 then [UInt8.ofNat v] else UInt8.ofNat (247 + nd v) :: dg (nd v) v

theorem dg_length : ∀ k v, (dg k v).length = k
  | 0, _ => rfl
  | k + 1, v => by simp [dg, dg_length k]

theorem ndF_le : ∀ f v, ndF f v ≤ f
  | 0, _ => Nat.le_refl _
  | f + 1, v => by
    simp only [ndF]
    split
    · omega
    · have := ndF_le f (v / 256); omega

theorem nd_le (v : Nat) : nd v ≤ 8 := ndF_le 8 v

theorem ndF_upper : ∀ f v, v < 256 ^ f → v < 256 ^ ndF f v
  | 0, v, h => by simpa [ndF] using h
  | f + 1, v, h => by
    simp only [ndF]
    split
    · subst v; simp
    · have h1 : v / 256 < 256 ^ f := by
        rw [Nat.div_lt_iff_lt_mul (by omega)]; rw [Nat.pow_succ] at h; exact h
      have := ndF_upper f (v / 256) h1
      rw [Nat.pow_succ]
      rwa [Nat.div_lt_iff_lt_mul (by omega)] at this

theorem ndF_lower : ∀ f v j, j < ndF f v → 0 < v / 256 ^ j
  | 0, v, j, h => by simp [ndF] at h
  | f + 1, v, j, h => by
    simp only [ndF] at h
    split at h
    · omega
    · cases j with
      | zero => simp; omega
      | succ j =>
        have := ndF_lower f (v / 256) j (by omega)
        rw [Nat.pow_succ, Nat.mul_comm, ← Nat.div_div_eq_div_mul]
        exact this

theorem p8 : 256 ^ 8 = 18446744073709551616 := by decide

theorem nd_upper {v : Nat} (h : v < 256 ^ 8) : v / 256 ^ nd v = 0 :=
  Nat.div_eq_of_lt (ndF_upper 8 v h)

theorem nd_lower {v j : Nat} (h : j < nd v) : 0 < v / 256 ^ j := ndF_lower 8 v j h

theorem nd_iff {v j : Nat} (hv : v < 256 ^ 8) (hj : ∀ i, i < j → 0 < v / 256 ^ i) (h0 : v / 256 ^ j = 0) : j = nd v := by
  rcases Nat.lt_trichotomy j (nd v) with h | h | h
  · have := nd_lower h; omega
  · exact h
  · have := hj _ h; rw [nd_upper hv] at this; omega

theorem dg_succ (k v : Nat) : dg (k + 1) v = UInt8.ofNat (v / 256 ^ k) :: dg k v := by
  induction k generalizing v with
  | zero => simp [dg]
  | succ k ih =>
    rw [dg, ih (v / 256)]
    simp only [List.cons_append]
    rw [show dg (k + 1) v = dg k (v / 256) ++ [UInt8.ofNat v] from rfl, Nat.div_div_eq_div_mul, Nat.pow_succ, Nat.mul_comm 256]

theorem num_short {v : Nat} (h : v < 248) : num v = [UInt8.ofNat v] := by simp [num, h]
theorem num_long {v : Nat} (h : ¬ v < 248) : num v = UInt8.ofNat (247 + nd v) :: dg (nd v) v := by simp [num, h]

/-- the number that digits to the base 256 make. -/
def valA (a : Nat) : List UInt8 → Nat
  | [] => a
  | c :: l => valA (a * 256 + c.toNat) l
def val (l : List UInt8) : Nat := valA 0 l

theorem valA_append (l m : List UInt8) : ∀ a, valA a (l ++ m) = valA (valA a l) m := by
  induction l with
  | nil => intro a; rfl
  | cons c l ih => intro a; exact ih _
theorem val_snoc (l : List UInt8) (c : UInt8) : val (l ++ [c]) = val l * 256 + c.toNat := valA_append l [c] 0
theorem val_take_succ (r : List UInt8) (k : Nat) (h : k < r.length) : val (r.take (k + 1)) = val (r.take k) * 256 + r[k].toNat := by
  rw [List.take_succ_eq_append_getElem h, val_snoc]
theorem valA_lt (l : List UInt8) : ∀ a n, a < 256 ^ n → valA a l < 256 ^ (n + l.length) := by
  induction l with
  | nil => intro a n h; exact h
  | cons c l ih =>
    intro a n h
    have := ih (a * 256 + c.toNat) (n + 1) (by have := c.toNat_lt; rw [Nat.pow_succ]; omega)
    rw [List.length_cons, show n + (l.length + 1) = n + 1 + l.length by omega]
    exact this
theorem val_lt (l : List UInt8) : val l < 256 ^ l.length := by
  have := valA_lt l 0 0 (by simp)
  rwa [Nat.zero_add] at this
theorem val_dg : ∀ k v, val (dg k v) = v % 256 ^ k
  | 0, v => by simp [dg, val, valA, Nat.mod_one]
  | k + 1, v => by
    rw [dg, val_snoc, val_dg k (v / 256), Nat.pow_succ, Nat.mul_comm (256 ^ k), Nat.mod_mul]
    simp
    omega
theorem dg_val : ∀ l : List UInt8, dg l.length (val l) = l := by
  intro l
  induction h : l.length generalizing l with
  | zero => rw [List.eq_nil_of_length_eq_zero h]; rfl
  | succ n ih =>
    obtain ⟨m, c, rfl⟩ : ∃ m c, l = m ++ [c] := ⟨l.dropLast, l.getLast (by intro e; simp [e] at h), (List.dropLast_concat_getLast _).symm⟩
    rw [val_snoc, dg]
    have hl : m.length = n := by simpa using h
    have h1 : (val m * 256 + c.toNat) / 256 = val m := by have := c.toNat_lt; omega
    rw [h1, ih m hl]
    congr 1
    rw [List.cons.injEq]
    refine ⟨?_, rfl⟩
    apply UInt8.toNat_inj.1
    have := c.toNat_lt
    simp

/-- the number that bytes begin with, how many bytes it has, and the error's number. -/
def readNum : List UInt8 → Nat × Nat × Nat
  | [] => (0, 0, 6)
  | c :: r =>
    if c.toNat ≤ 247 then (c.toNat, 1, 0)
    else if r.length < c.toNat - 247 then (0, 0, 6)
    else if r.headD 0 = 0 ∨ val (r.take (c.toNat - 247)) ≤ 247 then (0, 0, 7)
    else (val (r.take (c.toNat - 247)), c.toNat - 247 + 1, 0)

theorem readNum_short (c : UInt8) (r : List UInt8) (h : c.toNat ≤ 247) : readNum (c :: r) = (c.toNat, 1, 0) := by simp [readNum, h]
theorem readNum_end (c : UInt8) (r : List UInt8) (n : Nat) (h : c.toNat = n + 247) (h1 : 1 ≤ n) (hr : r.length < n) : readNum (c :: r) = (0, 0, 6) := by
  simp [readNum, h, hr]; omega
theorem readNum_form (c : UInt8) (r : List UInt8) (n : Nat) (h : c.toNat = n + 247) (h1 : 1 ≤ n) (hr : n ≤ r.length) (hf : r.headD 0 = 0 ∨ val (r.take n) ≤ 247) : readNum (c :: r) = (0, 0, 7) := by
  simp only [readNum]
  rw [if_neg (by omega), if_neg (by omega), h, Nat.add_sub_cancel, if_pos hf]
theorem readNum_ok (c : UInt8) (r : List UInt8) (n : Nat) (h : c.toNat = n + 247) (h1 : 1 ≤ n) (hr : n ≤ r.length) (hf : ¬ (r.headD 0 = 0 ∨ val (r.take n) ≤ 247)) : readNum (c :: r) = (val (r.take n), n + 1, 0) := by
  simp only [readNum]
  rw [if_neg (by omega), if_neg (by omega), h, Nat.add_sub_cancel, if_neg hf]

theorem readNum_bounds {l : List UInt8} {v n : Nat} (h : readNum l = (v, n, 0)) : 1 ≤ n ∧ n ≤ l.length ∧ n ≤ 9 ∧ v < 256 ^ 8 := by
  cases l with
  | nil => simp [readNum] at h
  | cons c r =>
    have hc := c.toNat_lt
    simp only [readNum] at h
    split at h
    · simp only [Prod.mk.injEq] at h
      obtain ⟨rfl, rfl, _⟩ := h
      rw [p8]
      simp only [List.length_cons]
      omega
    · split at h
      · simp at h
      · split at h
        · simp at h
        · simp only [Prod.mk.injEq] at h
          obtain ⟨rfl, rfl, _⟩ := h
          refine ⟨by omega, by simp only [List.length_cons]; omega, by omega, ?_⟩
          exact Nat.lt_of_lt_of_le (val_lt _) (Nat.pow_le_pow_right (by omega) (by rw [List.length_take]; omega))
theorem readNum_fail {l : List UInt8} {v n x : Nat} (h : readNum l = (v, n, x)) (hx : x ≠ 0) : v = 0 ∧ n = 0 ∧ x < 10 := by
  cases l with
  | nil => simp [readNum] at h; omega
  | cons c r =>
    simp only [readNum] at h
    split at h
    · simp at h; omega
    · split at h
      · simp at h; omega
      · split at h
        · simp at h; omega
        · simp at h; omega

/-- the text that bytes begin with, how many bytes it has, and the error's number. -/
def readText (l : List UInt8) (most : Int) : List UInt8 × Nat × Nat :=
  if (readNum l).2.2 ≠ 0 then ([], 0, (readNum l).2.2)
  else if max most 0 < (readNum l).1 then ([], 0, 5)
  else if l.length - (readNum l).2.1 < (readNum l).1 then ([], 0, 6)
  else ((l.drop (readNum l).2.1).take (readNum l).1, (readNum l).2.1 + (readNum l).1, 0)

theorem ndF_more : ∀ f v, v < 256 ^ f → ndF (f + 1) v = ndF f v
  | 0, v, h => by simp [ndF] at h ⊢; exact h
  | f + 1, v, h => by
    have h1 : v / 256 < 256 ^ f := by
      rw [Nat.div_lt_iff_lt_mul (by omega)]; rw [Nat.pow_succ] at h; exact h
    show (if v = 0 then 0 else ndF (f + 1) (v / 256) + 1) = _
    rw [ndF_more f (v / 256) h1]; rfl
theorem nd_step {v : Nat} (h : 0 < v) (hv : v < 256 ^ 8) : nd v = nd (v / 256) + 1 := by
  have h1 : v / 256 < 256 ^ 7 := by
    rw [Nat.div_lt_iff_lt_mul (by omega)]; exact hv
  unfold nd
  rw [ndF_more 7 _ h1]
  rw [ndF, if_neg (by omega)]
def digs (v : Nat) : List UInt8 := dg (nd v) v
theorem digs_zero : digs 0 = [] := rfl
theorem digs_step {v : Nat} (h : 0 < v) (hv : v < 256 ^ 8) : digs v = digs (v / 256) ++ [UInt8.ofNat v] := by
  unfold digs
  rw [nd_step h hv, dg]
theorem digs_length (v : Nat) : (digs v).length ≤ 8 := by unfold digs; rw [dg_length]; exact nd_le v
theorem digs_inner {v : Nat} (hv : v < 256 ^ 8) (k : Nat) : v / 256 ^ k < 256 ^ 8 := Nat.lt_of_le_of_lt (Nat.div_le_self _ _) hv

theorem num_length_le (v : Nat) : (num v).length ≤ 9 := by
  unfold num
  split
  · simp
  · have := nd_le v; simp only [List.length_cons, dg_length]; omega

def text (l : List UInt8) : List UInt8 := num l.length ++ l

end Go.Proofs.Ytegcpedgdldodaa.Oct

/- Plain laws about rows of texts. No program in sight. -/
import Derived.Test.YtegcpedgdldodaaOctBackP
namespace Go.Proofs.Ytegcpedgdldodaa.Oct
set_option linter.unusedVariables false
set_option linter.unusedSimpArgs false

/-- does a row hold a text longer than 8192, or more than 8192 bytes in all (n came before)? -/
def longL : Nat → List (List UInt8) → Bool
  | _, [] => false
  | n, l :: r => if 8192 < l.length then true else if 8192 < n + l.length then true else longL (n + l.length) r
def longB (ls : List (List UInt8)) : Bool := longL 0 ls || decide (300 < ls.length)
/-- how many bytes a row has. -/
def total : List (List UInt8) → Nat
  | [] => 0
  | l :: r => l.length + total r

theorem longL_false : ∀ (ls : List (List UInt8)) (n : Nat), n ≤ 8192 → longL n ls = false → n + total ls ≤ 8192
  | [], n, hn, _ => by simpa [total] using hn
  | l :: r, n, hn, h => by
    simp only [longL] at h
    split at h
    · cases h
    · split at h
      · cases h
      · have := longL_false r (n + l.length) (by omega) h
        simp only [total]; omega
theorem longB_false {ls : List (List UInt8)} (h : longB ls = false) : total ls ≤ 8192 ∧ ls.length ≤ 300 := by
  unfold longB at h
  rw [Bool.or_eq_false_iff] at h
  have h1 := longL_false ls 0 (by omega) h.1
  have h2 := of_decide_eq_false h.2
  omega
theorem total_append (a b : List (List UInt8)) : total (a ++ b) = total a + total b := by
  induction a with
  | nil => simp [total]
  | cons l r ih => simp only [List.cons_append, total, ih]; omega
theorem total_take_succ (ls : List (List UInt8)) (k : Nat) (h : k < ls.length) : total (ls.take (k + 1)) = total (ls.take k) + ls[k].length := by
  rw [List.take_succ_eq_append_getElem h, total_append]; simp [total]
theorem total_ge (ls : List (List UInt8)) (k : Nat) (h : k < ls.length) : ls[k].length ≤ total ls := by
  have h1 := total_take_succ ls k h
  have h2 : total ls = total (ls.take (k + 1)) + total (ls.drop (k + 1)) := by rw [← total_append, List.take_append_drop]
  omega
theorem longL_drop (ls : List (List UInt8)) (k n : Nat) (h : k < ls.length) :
    longL n (ls.drop k) = if 8192 < ls[k].length then true else if 8192 < n + ls[k].length then true else longL (n + ls[k].length) (ls.drop (k + 1)) := by
  rw [List.drop_eq_getElem_cons h]
  rfl

/-- the bytes of a row of texts. -/
def row : List (List UInt8) → List UInt8
  | [] => []
  | l :: r => text l ++ row r
theorem row_append (a b : List (List UInt8)) : row (a ++ b) = row a ++ row b := by
  induction a with
  | nil => rfl
  | cons l r ih => simp only [List.cons_append, row, ih, List.append_assoc]
theorem row_take_succ (ls : List (List UInt8)) (k : Nat) (h : k < ls.length) : row (ls.take (k + 1)) = row (ls.take k) ++ text ls[k] := by
  rw [List.take_succ_eq_append_getElem h, row_append]; simp [row]
theorem row_length (ls : List (List UInt8)) : (row ls).length ≤ total ls + 9 * ls.length := by
  induction ls with
  | nil => simp [row]
  | cons l r ih =>
    have h1 := text_length l
    have h2 := num_length_le l.length
    simp only [row, List.length_append, total, List.length_cons]
    omega
theorem row_take_le (ls : List (List UInt8)) (k : Nat) : (row (ls.take k)).length ≤ (row ls).length := by
  have h : row ls = row (ls.take k) ++ row (ls.drop k) := by rw [← row_append, List.take_append_drop]
  rw [h, List.length_append]; omega

/-- no text's bytes begin with another's. -/
theorem text_front {a b x y : List UInt8} (ha : a.length < 256 ^ 8) (hb : b.length < 256 ^ 8) (h : text a ++ x = text b ++ y) : a = b ∧ x = y := by
  unfold text at h
  rw [List.append_assoc, List.append_assoc] at h
  obtain ⟨h1, h2⟩ := num_front ha hb h
  have h3 := congrArg (List.take a.length) h2
  rw [List.take_left, h1, List.take_left] at h3
  subst h3
  exact ⟨rfl, List.append_cancel_left h2⟩
theorem row_inj : ∀ (a b : List (List UInt8)), a.length = b.length → (∀ l ∈ a, l.length < 256 ^ 8) → (∀ l ∈ b, l.length < 256 ^ 8) → row a = row b → a = b
  | [], [], _, _, _, _ => rfl
  | [], _ :: _, h, _, _, _ => by simp at h
  | _ :: _, [], h, _, _, _ => by simp at h
  | l :: r, m :: q, h, ha, hb, he => by
    obtain ⟨rfl, h2⟩ := text_front (ha l (by simp)) (hb m (by simp)) he
    rw [row_inj r q (by simpa using h) (fun x hx => ha x (by simp [hx])) (fun x hx => hb x (by simp [hx])) h2]
theorem mem_total {ls : List (List UInt8)} {l : List UInt8} (h : l ∈ ls) : l.length ≤ total ls := by
  obtain ⟨i, hi, rfl⟩ := List.mem_iff_getElem.1 h
  exact total_ge ls i hi

/-- does s begin with t? -/
def beginsB (s t : List UInt8) : Bool := decide (t.length ≤ s.length) && (s.take t.length == t)
theorem beginsB_iff {s t : List UInt8} : beginsB s t = true ↔ ∃ z, s = t ++ z := by
  unfold beginsB
  constructor
  · intro h
    rw [Bool.and_eq_true] at h
    have h2 := beq_iff_eq.1 h.2
    exact ⟨s.drop t.length, by conv => lhs; rw [← List.take_append_drop t.length s, h2]⟩
  · rintro ⟨z, rfl⟩
    simp
theorem begins_num {v w : Nat} (hv : v < 256 ^ 8) (hw : w < 256 ^ 8) : beginsB (num v) (num w) = decide (v = w) := by
  rw [Bool.eq_iff_iff, beginsB_iff, decide_eq_true_iff]
  constructor
  · rintro ⟨z, h⟩
    exact (num_front hv hw (z := []) (y := z) (by simpa using h)).1
  · rintro rfl
    exact ⟨[], by simp⟩
theorem begins_text {a b : List UInt8} (ha : a.length < 256 ^ 8) (hb : b.length < 256 ^ 8) : beginsB (text a) (text b) = decide (a = b) := by
  rw [Bool.eq_iff_iff, beginsB_iff, decide_eq_true_iff]
  constructor
  · rintro ⟨z, h⟩
    exact (text_front ha hb (x := []) (y := z) (by simpa using h)).1
  · rintro rfl
    exact ⟨[], by simp⟩
/-- two rows of texts of one length have the same bytes just if they are the same. -/
theorem row_same {a b : List (List UInt8)} (h : a.length = b.length) (ha : total a ≤ 8192) (hb : total b ≤ 8192) : (row a == row b) = decide (a = b) := by
  rw [Bool.eq_iff_iff, beq_iff_eq, decide_eq_true_iff]
  constructor
  · intro he
    refine row_inj a b h (fun l hl => ?_) (fun l hl => ?_) he
    · have := mem_total hl; rw [p8]; omega
    · have := mem_total hl; rw [p8]; omega
  · rintro rfl; rfl
end Go.Proofs.Ytegcpedgdldodaa.Oct

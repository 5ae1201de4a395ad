/- Plain frames and links over plain sums and numbers as bytes. No program in sight. -/
import Derived.Test.YtdmoolfalcdbjaaDoorHmacPlain
import Derived.Test.YtdmoolfalcdbjaaDoorOctPlain
import Derived.Test.YtdmoolfalcdbjaaDoorOctBackP
namespace Go.Proofs.YtdmoolfalcdbjaaDoor.Chain
set_option linter.unusedVariables false
set_option linter.unusedSimpArgs false
open Sha Oct

/-- the first link. -/
def zlink : List UInt8 := List.replicate 32 0
/-- the link behind a record. -/
def nextL (l r : List UInt8) : List UInt8 := sha (l ++ r)
/-- a record's frame. -/
def frameL (l r : List UInt8) : List UInt8 := text r ++ nextL l r
/-- the head behind records. -/
def headL (l : List UInt8) : List (List UInt8) → List UInt8
  | [] => l
  | r :: rs => headL (nextL l r) rs
/-- the frames of records. -/
def framesL (l : List UInt8) : List (List UInt8) → List UInt8
  | [] => []
  | r :: rs => frameL l r ++ framesL (nextL l r) rs
/-- whether a record may be. -/
def fits (r : List UInt8) : Bool := decide (r.length ≤ 8192)
/-- what check answers of records. -/
def chk (ls : List (List UInt8)) : Nat := if ls.all fits then 0 else 5

theorem zlink_length : zlink.length = 32 := List.length_replicate
theorem nextL_length (l r : List UInt8) : (nextL l r).length = 32 := sha_length _
theorem headL_length : ∀ (rs : List (List UInt8)) (l : List UInt8), l.length = 32 → (headL l rs).length = 32
  | [], l, h => h
  | r :: rs, l, h => headL_length rs _ (nextL_length l r)
theorem headL_append : ∀ (a b : List (List UInt8)) (l : List UInt8), headL l (a ++ b) = headL (headL l a) b
  | [], b, l => rfl
  | r :: a, b, l => headL_append a b (nextL l r)
theorem framesL_append : ∀ (a b : List (List UInt8)) (l : List UInt8), framesL l (a ++ b) = framesL l a ++ framesL (headL l a) b
  | [], b, l => rfl
  | r :: a, b, l => by
    simp only [List.cons_append, framesL, headL, framesL_append a b, List.append_assoc]
theorem headL_next (ls : List (List UInt8)) (l : List UInt8) (k : Nat) (h : k < ls.length) : headL l (ls.take (k + 1)) = nextL (headL l (ls.take k)) ls[k] := by
  rw [List.take_succ_eq_append_getElem h, headL_append]
  rfl
theorem framesL_next (ls : List (List UInt8)) (l : List UInt8) (k : Nat) (h : k < ls.length) : framesL l (ls.take (k + 1)) = framesL l (ls.take k) ++ frameL (headL l (ls.take k)) ls[k] := by
  rw [List.take_succ_eq_append_getElem h, framesL_append]
  simp only [framesL, List.append_nil]
theorem frameL_length (l r : List UInt8) : (frameL l r).length = (text r).length + 32 := by unfold frameL; rw [List.length_append, nextL_length]
theorem frameL_le (l r : List UInt8) : (frameL l r).length ≤ r.length + 41 := by
  rw [frameL_length, text_length]
  have := num_length_le r.length
  omega
/-- how many bytes texts have. -/
def total : List (List UInt8) → Nat
  | [] => 0
  | r :: rs => r.length + total rs
theorem framesL_le : ∀ (rs : List (List UInt8)) (l : List UInt8), (framesL l rs).length ≤ total rs + 41 * rs.length
  | [], l => by simp [framesL]
  | r :: rs, l => by
    have := framesL_le rs (nextL l r)
    have := frameL_le l r
    simp only [framesL, List.length_append, total, List.length_cons]
    omega
theorem total_append (a b : List (List UInt8)) : total (a ++ b) = total a + total b := by
  induction a with
  | nil => simp [total]
  | cons r a ih => simp only [List.cons_append, total, ih]; omega
theorem total_take (ls : List (List UInt8)) (k : Nat) : total (ls.take k) ≤ total ls := by
  have := total_append (ls.take k) (ls.drop k)
  rw [List.take_append_drop] at this
  omega
theorem total_at (ls : List (List UInt8)) (k : Nat) (h : k < ls.length) : total (ls.take (k + 1)) = total (ls.take k) + (ls[k]).length := by
  rw [List.take_succ_eq_append_getElem h, total_append]
  simp [total]
theorem chk_ok {ls : List (List UInt8)} (h : chk ls = 0) : ∀ r ∈ ls, r.length ≤ 8192 := by
  unfold chk at h
  split at h
  · rename_i ha
    intro r hr
    have := List.all_eq_true.1 ha r hr
    unfold fits at this
    simpa using this
  · cases h
theorem chk_cases (ls : List (List UInt8)) : chk ls = 0 ∨ chk ls = 5 := by
  unfold chk; split; exact .inl rfl; exact .inr rfl
end Go.Proofs.YtdmoolfalcdbjaaDoor.Chain

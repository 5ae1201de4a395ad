/- The stream's counter: four bytes, and one more. No program in sight. -/
import Derived.Test.YtjjdjdhkfmfchaaDoorCiphR
namespace Go.Proofs.YtjjdjdhkfmfchaaDoor.Ciph
set_option linter.unusedVariables false
set_option linter.unusedSimpArgs false
open Sha

/-- the counter's bytes, of which the carry has wrapped all from place k on. -/
def atL (q : Nat) : Nat → List UInt8
  | 0 => [0, 0, 0, 0]
  | 1 => [UInt8.ofNat (q / 16777216), 0, 0, 0]
  | 2 => [UInt8.ofNat (q / 16777216), UInt8.ofNat (q / 65536), 0, 0]
  | 3 => [UInt8.ofNat (q / 16777216), UInt8.ofNat (q / 65536), UInt8.ofNat (q / 256), 0]
  | _ => [UInt8.ofNat (q / 16777216), UInt8.ofNat (q / 65536), UInt8.ofNat (q / 256), UInt8.ofNat q]
theorem atL_length (q k : Nat) : (atL q k).length = 4 := by
  unfold atL
  split <;> rfl
theorem atL_four (q : Nat) : atL q 4 = be 4 q := by rw [be4]; rfl
/-- the bytes from place k on are all 255. -/
def carry (q : Nat) : Nat → Prop
  | 0 => (q + 1) % 4294967296 = 0
  | 1 => (q + 1) % 16777216 = 0
  | 2 => (q + 1) % 65536 = 0
  | 3 => (q + 1) % 256 = 0
  | _ => True
theorem ofNat_eq {a b : Nat} (h : a % 256 = b % 256) : UInt8.ofNat a = UInt8.ofNat b := by
  apply UInt8.toNat_inj.1
  rw [UInt8.toNat_ofNat', UInt8.toNat_ofNat']
  exact h
theorem ofNat_one (a : Nat) : UInt8.ofNat a + 1 = UInt8.ofNat (a + 1) := by
  apply UInt8.toNat_inj.1
  rw [UInt8.toNat_add, UInt8.toNat_ofNat', UInt8.toNat_ofNat']
  simp
theorem ofNat_zero {a : Nat} : UInt8.ofNat a = 0 ↔ a % 256 = 0 := by
  rw [show (0 : UInt8) = UInt8.ofNat 0 from rfl]
  constructor
  · intro h
    have := congrArg UInt8.toNat h
    rw [UInt8.toNat_ofNat', UInt8.toNat_ofNat'] at this
    simpa using this
  · intro h
    exact ofNat_eq (by simpa using h)
theorem zero_of {a : Nat} (h : a % 256 = 0) : (0 : UInt8) = UInt8.ofNat a := (ofNat_zero.2 h).symm

/-- one more at place k ends the carry, -/
theorem atL_stop (q k : Nat) (hk : k < 4) (hc : carry q (k + 1)) (h : (atL q (k + 1))[k]'(by rw [atL_length]; exact hk) + 1 ≠ 0) :
    (atL q (k + 1)).set k ((atL q (k + 1))[k]'(by rw [atL_length]; exact hk) + 1) = be 4 (q + 1) := by
  rw [be4]
  match k, hk with
  | 0, _ =>
    simp only [atL, carry, List.getElem_cons_zero, List.set_cons_zero, ofNat_one, ne_eq, ofNat_zero] at hc h ⊢
    simp only [List.cons.injEq, and_true]
    exact ⟨ofNat_eq (by omega), zero_of (by omega), zero_of (by omega), zero_of (by omega)⟩
  | 1, _ =>
    simp only [atL, carry, List.getElem_cons_zero, List.getElem_cons_succ, List.set_cons_zero, List.set_cons_succ, ofNat_one, ne_eq, ofNat_zero] at hc h ⊢
    simp only [List.cons.injEq, and_true]
    exact ⟨ofNat_eq (by omega), ofNat_eq (by omega), zero_of (by omega), zero_of (by omega)⟩
  | 2, _ =>
    simp only [atL, carry, List.getElem_cons_zero, List.getElem_cons_succ, List.set_cons_zero, List.set_cons_succ, ofNat_one, ne_eq, ofNat_zero] at hc h ⊢
    simp only [List.cons.injEq, and_true]
    exact ⟨ofNat_eq (by omega), ofNat_eq (by omega), ofNat_eq (by omega), zero_of (by omega)⟩
  | 3, _ =>
    simp only [atL, carry, List.getElem_cons_zero, List.getElem_cons_succ, List.set_cons_zero, List.set_cons_succ, ofNat_one, ne_eq, ofNat_zero] at hc h ⊢
    simp only [List.cons.injEq, and_true]
    exact ⟨ofNat_eq (by omega), ofNat_eq (by omega), ofNat_eq (by omega)⟩
/-- or it goes on. -/
theorem atL_on (q k : Nat) (hk : k < 4) (hc : carry q (k + 1)) (h : (atL q (k + 1))[k]'(by rw [atL_length]; exact hk) + 1 = 0) :
    (atL q (k + 1)).set k ((atL q (k + 1))[k]'(by rw [atL_length]; exact hk) + 1) = atL q k ∧ carry q k := by
  match k, hk with
  | 0, _ =>
    simp only [atL, carry, List.getElem_cons_zero, List.set_cons_zero, ofNat_one, ofNat_zero] at hc h ⊢
    exact ⟨by rw [ofNat_zero.2 h], by omega⟩
  | 1, _ =>
    simp only [atL, carry, List.getElem_cons_zero, List.getElem_cons_succ, List.set_cons_zero, List.set_cons_succ, ofNat_one, ofNat_zero] at hc h ⊢
    exact ⟨by rw [ofNat_zero.2 h], by omega⟩
  | 2, _ =>
    simp only [atL, carry, List.getElem_cons_zero, List.getElem_cons_succ, List.set_cons_zero, List.set_cons_succ, ofNat_one, ofNat_zero] at hc h ⊢
    exact ⟨by rw [ofNat_zero.2 h], by omega⟩
  | 3, _ =>
    simp only [atL, carry, List.getElem_cons_zero, List.getElem_cons_succ, List.set_cons_zero, List.set_cons_succ, ofNat_one, ofNat_zero] at hc h ⊢
    exact ⟨by rw [ofNat_zero.2 h], by omega⟩
theorem atL_none (q : Nat) (hc : carry q 0) : atL q 0 = be 4 (q + 1) := by
  rw [be4]
  simp only [atL, carry] at hc ⊢
  simp only [List.cons.injEq, and_true]
  exact ⟨zero_of (by omega), zero_of (by omega), zero_of (by omega), zero_of (by omega)⟩
end Go.Proofs.YtjjdjdhkfmfchaaDoor.Ciph

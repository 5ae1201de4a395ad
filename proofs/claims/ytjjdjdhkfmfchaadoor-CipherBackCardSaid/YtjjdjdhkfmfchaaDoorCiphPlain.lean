/- Plain texts sealed under a key. No program in sight. -/
import Derived.Test.YtjjdjdhkfmfchaaDoorHmacPlain
namespace Go.Proofs.YtjjdjdhkfmfchaaDoor.Ciph
set_option linter.unusedVariables false
set_option linter.unusedSimpArgs false
open Sha

def tstream : List UInt8 := [115, 116, 114, 101, 97, 109]
def ttag : List UInt8 := [116, 97, 103]
def strK (key : List UInt8) : List UInt8 := hmac key tstream
def tagK (key : List UInt8) : List UInt8 := hmac key ttag
/-- a part of the stream. -/
def part (k nonce : List UInt8) (q : Nat) : List UInt8 := hmac k (nonce ++ be 4 q)
/-- byte i of the stream. -/
def sb (k nonce : List UInt8) (i : Nat) : UInt8 := (part k nonce (i / 32)).getD (i % 32) 0
/-- each byte xor the stream's, from place i on. -/
def strmF (k nonce : List UInt8) : Nat → List UInt8 → List UInt8
  | _, [] => []
  | i, c :: s => (c ^^^ sb k nonce i) :: strmF k nonce (i + 1) s
def strm (k nonce s : List UInt8) : List UInt8 := strmF k nonce 0 s

theorem strmF_length (k nonce : List UInt8) : ∀ (s : List UInt8) (i : Nat), (strmF k nonce i s).length = s.length
  | [], i => rfl
  | c :: s, i => by simp only [strmF, List.length_cons, strmF_length k nonce s]
theorem strm_length (k nonce s : List UInt8) : (strm k nonce s).length = s.length := strmF_length k nonce s 0
theorem strmF_append (k nonce : List UInt8) : ∀ (a b : List UInt8) (i : Nat), strmF k nonce i (a ++ b) = strmF k nonce i a ++ strmF k nonce (i + a.length) b
  | [], b, i => rfl
  | c :: a, b, i => by
    simp only [List.cons_append, strmF, strmF_append k nonce a b (i + 1), List.length_cons]
    rw [show i + 1 + a.length = i + (a.length + 1) by omega]
theorem strm_next (k nonce s : List UInt8) (m : Nat) (h : m < s.length) : strm k nonce (s.take (m + 1)) = strm k nonce (s.take m) ++ [s[m] ^^^ sb k nonce m] := by
  rw [List.take_succ_eq_append_getElem h]
  unfold strm
  rw [strmF_append, List.length_take, Nat.min_eq_left (by omega), Nat.zero_add]
  rfl
theorem strm_set (k nonce s : List UInt8) (m : Nat) (h : m < s.length) : (strm k nonce (s.take m) ++ s.drop m).set m (s[m] ^^^ sb k nonce m) = strm k nonce (s.take (m + 1)) ++ s.drop (m + 1) := by
  have h1 : (strm k nonce (s.take m)).length = m := by rw [strm_length, List.length_take]; omega
  rw [List.set_append_right _ _ (by omega), h1, Nat.sub_self, List.drop_eq_getElem_cons h, List.set_cons_zero, strm_next _ _ _ _ h, List.append_assoc]
  rfl
theorem strm_at (k nonce s : List UInt8) (m : Nat) (h : m < s.length) (hj : m < (strm k nonce (s.take m) ++ s.drop m).length) : (strm k nonce (s.take m) ++ s.drop m)[m]'hj = s[m] := by
  have h1 : (strm k nonce (s.take m)).length = m := by rw [strm_length, List.length_take]; omega
  rw [List.getElem_append_right (by omega), List.getElem_drop]
  congr 1
  omega
theorem strmF_twice (k nonce : List UInt8) : ∀ (s : List UInt8) (i : Nat), strmF k nonce i (strmF k nonce i s) = s
  | [], i => rfl
  | c :: s, i => by
    simp only [strmF, strmF_twice k nonce s, UInt8.xor_assoc, UInt8.xor_self, UInt8.xor_zero]
theorem strm_twice (k nonce s : List UInt8) : strm k nonce (strm k nonce s) = s := strmF_twice k nonce s 0
theorem part_length (k nonce : List UInt8) (q : Nat) : (part k nonce q).length = 32 := hmac_length _ _
theorem sb_at (k nonce : List UInt8) (q j : Nat) (hj : j < 32) : sb k nonce (32 * q + j) = (part k nonce q)[j]'(by rw [part_length]; exact hj) := by
  unfold sb
  rw [show (32 * q + j) / 32 = q by omega, show (32 * q + j) % 32 = j by omega, List.getD_eq_getElem?_getD, List.getElem?_eq_getElem (by rw [part_length]; exact hj), Option.getD_some]

/-- a nonce, and a text hidden behind it. -/
def hidden (key nonce s : List UInt8) : List UInt8 := nonce ++ strm (strK key) nonce s
def tagOf (key x : List UInt8) : List UInt8 := hmac (tagK key) x
def sealed (key nonce s : List UInt8) : List UInt8 := hidden key nonce s ++ tagOf key (hidden key nonce s)
/-- what Seal answers. -/
def sealR (key nonce s : List UInt8) : List UInt8 × Nat :=
  if nonce.length ≠ 12 then ([], 2) else if 65536 < s.length then ([], 5) else (sealed key nonce s, 0)
/-- what Open answers. -/
def openR (key x : List UInt8) : List UInt8 × Nat :=
  if x.length < 44 then ([], 6) else if 65580 < x.length then ([], 5)
  else if tagOf key (x.take (x.length - 32)) ≠ x.drop (x.length - 32) then ([], 40)
  else (strm (strK key) (x.take 12) ((x.take (x.length - 32)).drop 12), 0)

theorem tagOf_length (key x : List UInt8) : (tagOf key x).length = 32 := hmac_length _ _
theorem hidden_length (key nonce s : List UInt8) : (hidden key nonce s).length = nonce.length + s.length := by unfold hidden; rw [List.length_append, strm_length]
theorem sealed_length (key nonce s : List UInt8) : (sealed key nonce s).length = nonce.length + s.length + 32 := by unfold sealed; rw [List.length_append, tagOf_length, hidden_length]

/-- what was sealed is opened. -/
theorem open_sealed (key nonce s : List UInt8) (hn : nonce.length = 12) (hs : s.length ≤ 65536) : openR key (sealed key nonce s) = (s, 0) := by
  have hl := sealed_length key nonce s
  have hh := hidden_length key nonce s
  have h1 : (sealed key nonce s).take ((sealed key nonce s).length - 32) = hidden key nonce s := by
    rw [hl, show nonce.length + s.length + 32 - 32 = (hidden key nonce s).length by rw [hh]; omega]
    unfold sealed
    exact List.take_left
  have h2 : (sealed key nonce s).drop ((sealed key nonce s).length - 32) = tagOf key (hidden key nonce s) := by
    rw [hl, show nonce.length + s.length + 32 - 32 = (hidden key nonce s).length by rw [hh]; omega]
    unfold sealed
    exact List.drop_left
  have h3 : (sealed key nonce s).take 12 = nonce := by
    unfold sealed hidden
    rw [List.append_assoc, ← hn]
    exact List.take_left
  unfold openR
  rw [if_neg (by omega), if_neg (by omega), h1, h2, if_neg (by simp), h3]
  unfold hidden
  rw [show (nonce ++ strm (strK key) nonce s).drop 12 = strm (strK key) nonce s by rw [← hn]; exact List.drop_left, strm_twice]

/-- what is opened is what would be sealed. -/
theorem seal_opened (key x a : List UInt8) (h : openR key x = (a, 0)) : sealR key (x.take 12) a = (x, 0) := by
  unfold openR at h
  split at h
  · cases h
  split at h
  · cases h
  split at h
  · cases h
  rename_i h1 h2 h3
  simp only [Prod.mk.injEq, and_true] at h
  simp only [ne_eq, Classical.not_not] at h3
  have hl : a.length = x.length - 44 := by rw [← h, strm_length, List.length_drop, List.length_take]; omega
  unfold sealR
  rw [if_neg (by rw [List.length_take]; omega), if_neg (by omega)]
  have hh : hidden key (x.take 12) a = x.take (x.length - 32) := by
    unfold hidden
    rw [← h, strm_twice, show x.take 12 = (x.take (x.length - 32)).take 12 by rw [List.take_take, Nat.min_eq_left (by omega)], List.take_append_drop]
  unfold sealed
  rw [hh, h3, List.take_append_drop]

/-- two texts of one length, byte by byte. -/
def xorP : List UInt8 → List UInt8 → List UInt8
  | x :: a, y :: b => (x ^^^ y) :: xorP a b
  | [], _ => []
  | a, [] => a
theorem xorP_length : ∀ (a b : List UInt8), (xorP a b).length = a.length
  | [], b => by unfold xorP; rfl
  | x :: a, [] => by unfold xorP; rfl
  | x :: a, y :: b => by simp only [xorP, List.length_cons, xorP_length a b]
theorem xorP_nil (a : List UInt8) : xorP a [] = a := by cases a <;> rfl
/-- what the first k places of a text have become. -/
def xorK (a b : List UInt8) (k : Nat) : List UInt8 := xorP (a.take k) (b.take k) ++ a.drop k
theorem xorP_next : ∀ (a b : List UInt8) (k : Nat) (h : k < a.length) (h' : k < b.length), xorP (a.take (k + 1)) (b.take (k + 1)) = xorP (a.take k) (b.take k) ++ [a[k] ^^^ b[k]]
  | x :: a, y :: b, 0, _, _ => by simp [xorP]
  | x :: a, y :: b, k + 1, h, h' => by
    have := xorP_next a b k (by simpa using h) (by simpa using h')
    simp only [List.take_succ_cons, xorP, List.getElem_cons_succ]
    rw [this, List.cons_append]
theorem xorK_next (a b : List UInt8) (k : Nat) (h : k < a.length) (h' : k < b.length) : (xorK a b k).set k (a[k] ^^^ b[k]) = xorK a b (k + 1) := by
  have h1 : (xorP (a.take k) (b.take k)).length = k := by rw [xorP_length, List.length_take]; omega
  unfold xorK
  rw [List.set_append_right _ _ (by omega), h1, Nat.sub_self, List.drop_eq_getElem_cons h, List.set_cons_zero, xorP_next _ _ _ h h', List.append_assoc]
  rfl
theorem xorK_at (a b : List UInt8) (k : Nat) (h : k < a.length) (hj : k < (xorK a b k).length) : (xorK a b k)[k]'hj = a[k] := by
  have h1 : (xorP (a.take k) (b.take k)).length = k := by rw [xorP_length, List.length_take]; omega
  unfold xorK at hj ⊢
  rw [List.getElem_append_right (by omega), List.getElem_drop]
  congr 1
  omega
theorem xorK_length (a b : List UInt8) (k : Nat) : (xorK a b k).length = a.length := by
  unfold xorK
  rw [List.length_append, xorP_length, List.length_take, List.length_drop]
  omega
theorem xorK_end (a b : List UInt8) (k : Nat) (h : k = min a.length b.length) : xorK a b k = xorP a b := by
  unfold xorK
  have hx : ∀ (a b : List UInt8) (k : Nat), k = min a.length b.length → xorP (a.take k) (b.take k) ++ a.drop k = xorP a b := by
    intro a
    induction a with
    | nil => intro b k h; simp [xorP]
    | cons x a ih =>
      intro b k h
      cases b with
      | nil => simp at h; subst h; simp [xorP]
      | cons y b =>
        simp only [List.length_cons] at h
        obtain ⟨k, rfl⟩ : ∃ j, k = j + 1 := ⟨k - 1, by omega⟩
        simp only [List.take_succ_cons, List.drop_succ_cons, xorP, List.cons_append]
        rw [ih b k (by omega)]
  exact hx a b k h
theorem xorP_self : ∀ (a : List UInt8), xorP a a = List.replicate a.length 0
  | [] => rfl
  | x :: a => by simp only [xorP, UInt8.xor_self, xorP_self a, List.length_cons, List.replicate_succ]
/-- the stream falls out. -/
theorem xorP_strm (k nonce : List UInt8) : ∀ (a b : List UInt8) (i : Nat), a.length = b.length → xorP (strmF k nonce i a) (strmF k nonce i b) = xorP a b
  | [], [], i, _ => rfl
  | x :: a, y :: b, i, h => by
    simp only [strmF, xorP]
    rw [xorP_strm k nonce a b (i + 1) (by simpa using h)]
    congr 1
    rw [UInt8.xor_assoc, ← UInt8.xor_assoc (sb k nonce i), UInt8.xor_comm (sb k nonce i) y, UInt8.xor_assoc y, UInt8.xor_self, UInt8.xor_zero]
theorem strm_take (k nonce s : List UInt8) (m : Nat) : (strm k nonce s).take m = strm k nonce (s.take m) := by
  rcases Nat.le_total m s.length with h | h
  · have := strmF_append k nonce (s.take m) (s.drop m) 0
    rw [List.take_append_drop] at this
    unfold strm
    rw [this]
    have hl : (strmF k nonce 0 (s.take m)).length = m := by rw [strmF_length, List.length_take]; omega
    rw [List.take_append_of_le_length (by omega), List.take_of_length_le (by omega)]
  · rw [List.take_of_length_le (by rw [strm_length]; exact h), List.take_of_length_le h]
/-- a tag that was changed. -/
theorem xorP_same {a b : List UInt8} (h : a.length = b.length) : xorP a b = a ↔ b = List.replicate b.length 0 := by
  induction a generalizing b with
  | nil => cases b with
    | nil => simp [xorP]
    | cons y b => simp at h
  | cons x a ih =>
    cases b with
    | nil => simp at h
    | cons y b =>
      simp only [xorP, List.cons.injEq, List.length_cons, List.replicate_succ]
      rw [ih (by simpa using h)]
      constructor
      · rintro ⟨h1, h2⟩
        refine ⟨?_, h2⟩
        have := congrArg (x ^^^ ·) h1
        simpa [← UInt8.xor_assoc] using this
      · rintro ⟨h1, h2⟩
        exact ⟨by rw [h1, UInt8.xor_zero], h2⟩
end Go.Proofs.YtjjdjdhkfmfchaaDoor.Ciph

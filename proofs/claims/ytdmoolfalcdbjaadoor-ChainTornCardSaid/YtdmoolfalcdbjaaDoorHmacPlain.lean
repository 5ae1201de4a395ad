/- Plain HMAC over plain SHA-256. No program in sight. -/
import Derived.Test.YtdmoolfalcdbjaaDoorShaPlain3
namespace Go.Proofs.YtdmoolfalcdbjaaDoor.Sha
set_option linter.unusedVariables false
set_option linter.unusedSimpArgs false

/-- bytes 0 behind a key, up to 64. -/
def pad64 (k : List UInt8) : List UInt8 := k ++ List.replicate (64 - k.length) 0
/-- a key as short as a block. -/
def short64 (k : List UInt8) : List UInt8 := if 64 < k.length then sha k else k
/-- the block of a key. -/
def key64 (k : List UInt8) : List UInt8 := pad64 (short64 k)
/-- each byte turned. -/
def xorAll (l : List UInt8) (n : UInt8) : List UInt8 := l.map (· ^^^ n)
/-- the tag of a text under a key. -/
def hmac (k s : List UInt8) : List UInt8 := sha (xorAll (key64 k) 92 ++ sha (xorAll (key64 k) 54 ++ s))

theorem short64_length (k : List UInt8) : (short64 k).length ≤ 64 := by
  unfold short64
  split
  · rw [sha_length]; omega
  · omega
theorem pad64_length {k : List UInt8} (h : k.length ≤ 64) : (pad64 k).length = 64 := by
  unfold pad64
  rw [List.length_append, List.length_replicate]
  omega
theorem key64_length (k : List UInt8) : (key64 k).length = 64 := pad64_length (short64_length k)
theorem xorAll_length (l : List UInt8) (n : UInt8) : (xorAll l n).length = l.length := by unfold xorAll; rw [List.length_map]
theorem hmac_length (k s : List UInt8) : (hmac k s).length = 32 := sha_length _
theorem short64_long {k : List UInt8} (h : 64 < k.length) : short64 k = sha k := by unfold short64; rw [if_pos h]
theorem short64_short {k : List UInt8} (h : k.length ≤ 64) : short64 k = k := by unfold short64; rw [if_neg (by omega)]
/-- a long key gives the same tags as its sum. -/
theorem hmac_long {k : List UInt8} (s : List UInt8) (h : 64 < k.length) : hmac (sha k) s = hmac k s := by
  unfold hmac key64
  rw [short64_long h, short64_short (by rw [sha_length]; omega)]
/-- a short one gives the same with bytes 0 behind it. -/
theorem hmac_more {k : List UInt8} (s : List UInt8) (n : Nat) (h : k.length + n ≤ 64) : hmac (k ++ List.replicate n 0) s = hmac k s := by
  have e : key64 (k ++ List.replicate n 0) = key64 k := by
    unfold key64
    rw [short64_short (by rw [List.length_append, List.length_replicate]; omega), short64_short (by omega)]
    unfold pad64
    rw [List.append_assoc, List.replicate_append_replicate, List.length_append, List.length_replicate]
    congr 2
    omega
  unfold hmac
  rw [e]
theorem xor_next (l : List UInt8) (n : UInt8) (k : Nat) (h : k < l.length) :
    (xorAll (l.take k) n ++ l.drop k).set k (l[k] ^^^ n) = xorAll (l.take (k + 1)) n ++ l.drop (k + 1) := by
  have h1 : (xorAll (l.take k) n).length = k := by rw [xorAll_length, List.length_take]; omega
  rw [List.set_append_right _ _ (by omega), h1, Nat.sub_self, List.drop_eq_getElem_cons h, List.set_cons_zero, List.take_succ_eq_append_getElem h]
  unfold xorAll
  rw [List.map_append, List.map_cons, List.map_nil, List.append_assoc]
  rfl
theorem xor_at (l : List UInt8) (n : UInt8) (k : Nat) (h : k < l.length) (hj : k < (xorAll (l.take k) n ++ l.drop k).length) : (xorAll (l.take k) n ++ l.drop k)[k]'hj = l[k] := by
  have h1 : (xorAll (l.take k) n).length = k := by rw [xorAll_length, List.length_take]; omega
  rw [List.getElem_append_right (by omega), List.getElem_drop]
  congr 1
  omega
theorem by8_xor (a b : UInt8) : bits .xor .u8 (by8 a) (by8 b) = by8 (a ^^^ b) := by
  unfold by8
  rw [u8_xor_nat _ _ a.toNat_lt b.toNat_lt, UInt8.toNat_xor]
theorem by8_or (a b : UInt8) : bits .or .u8 (by8 a) (by8 b) = by8 (a ||| b) := by
  unfold by8
  rw [u8_or_nat _ _ a.toNat_lt b.toNat_lt, UInt8.toNat_or]
theorem by8_lo (a : UInt8) : 0 ≤ by8 a := by unfold by8; omega
theorem by8_hi (a : UInt8) : by8 a ≤ 255 := by unfold by8; have := a.toNat_lt; omega
end Go.Proofs.YtdmoolfalcdbjaaDoor.Sha

/- Plain SHA-256: the padded text and the sum. No program in sight. -/
import Derived.Test.YtjjdjdhkfmfchaaDoorShaPlain2
namespace Go.Proofs.YtjjdjdhkfmfchaaDoor.Sha
set_option linter.unusedVariables false
set_option linter.unusedSimpArgs false

/-- k digits of v to the base 256, the highest first. -/
def be : Nat → Nat → List UInt8
  | 0, _ => []
  | k + 1, v => UInt8.ofNat (v / 256 ^ k) :: be k v
theorem be_length : ∀ k v, (be k v).length = k
  | 0, _ => rfl
  | k + 1, v => by simp [be, be_length k]

/-- how many bytes 0 the padding has. -/
def zer (n : Nat) : Nat := (119 - n % 64) % 64
def tail (n : Nat) : List UInt8 := 128 :: (List.replicate (zer n) 0 ++ be 8 (8 * n))
/-- the padded text. -/
def padded (m : List UInt8) : List UInt8 := m ++ tail m.length
/-- the four bytes of a word. -/
def wbytes (x : UInt32) : List UInt8 := [(x >>> 24).toUInt8, (x >>> 16).toUInt8, (x >>> 8).toUInt8, x.toUInt8]
def wsum (l : List UInt32) : List UInt8 := l.flatMap wbytes
/-- the sum of a text. -/
def sha (m : List UInt8) : List UInt8 := wsum (stA (padded m) ((padded m).length / 64)).list

theorem tail_length (n : Nat) : (tail n).length = 9 + zer n := by simp [tail, be_length]; omega
theorem padded_length (m : List UInt8) : (padded m).length = m.length + 9 + zer m.length := by simp [padded, tail_length]; omega
theorem padded_whole (m : List UInt8) : (padded m).length % 64 = 0 := by rw [padded_length]; unfold zer; omega
theorem wsum_length (l : List UInt32) : (wsum l).length = 4 * l.length := by
  induction l with
  | nil => rfl
  | cons x l ih => simp only [wsum, List.flatMap_cons, List.length_append] at ih ⊢; rw [ih]; simp [wbytes]; omega
theorem sha_length (m : List UInt8) : (sha m).length = 32 := by simp [sha, wsum_length, St.list_length]
theorem wsum_next (l : List UInt32) (j : Nat) (h : j < l.length) : wsum (l.take j) ++ wbytes (l.getD j 0) = wsum (l.take (j + 1)) := by
  rw [List.take_succ_eq_append_getElem h, List.getD_eq_getElem?_getD, List.getElem?_eq_getElem h, Option.getD_some]
  unfold wsum
  rw [List.flatMap_append, List.flatMap_cons, List.flatMap_nil, List.append_nil]
theorem replicate_more (j : Nat) (c : UInt8) : List.replicate j c ++ [c] = List.replicate (j + 1) c := by
  rw [List.replicate_succ']
theorem byte_of (x : UInt32) : IntKind.u8.wrap (u x) = by8 x.toUInt8 := by
  rw [IntKind.wrap_u8]
  unfold by8 u
  rw [UInt32.toNat_toUInt8]
  omega
theorem byte_ofN (n : Nat) : IntKind.u8.wrap (n : Int) = by8 (UInt8.ofNat n) := by
  rw [IntKind.wrap_u8]
  unfold by8
  rw [UInt8.toNat_ofNat']
  omega
end Go.Proofs.YtjjdjdhkfmfchaaDoor.Sha

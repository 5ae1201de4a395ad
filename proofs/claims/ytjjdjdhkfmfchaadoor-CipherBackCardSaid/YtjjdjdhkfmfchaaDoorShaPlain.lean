/- Plain SHA-256 on words of 32 bits: no program in sight. -/
import Derived.WalkKit
import Derived.PlainAid
import Derived.Laws.BitsAllLaws
namespace Go.Proofs.YtjjdjdhkfmfchaaDoor.Sha
set_option linter.unusedVariables false
set_option linter.unusedSimpArgs false

/-- a word as the model's number. -/
def u (x : UInt32) : Int := (x.toNat : Int)
/-- a byte as the model's number. -/
def by8 (c : UInt8) : Int := (c.toNat : Int)

theorem u_lo (x : UInt32) : 0 ≤ u x := by unfold u; omega
theorem u_hi (x : UInt32) : u x ≤ 4294967295 := by unfold u; have := x.toNat_lt; omega
theorem u_inj {x y : UInt32} (h : u x = u y) : x = y := by unfold u at h; exact UInt32.toNat_inj.1 (by omega)

theorem u_nat (x y : UInt32) : u x + u y = ((x.toNat + y.toNat : Nat) : Int) := by unfold u; omega
theorem u_add (x y : UInt32) : IntKind.u32.wrap (u x + u y) = u (x + y) := by
  rw [IntKind.wrap_u32]; unfold u; rw [UInt32.toNat_add]; omega
theorem u_xor (x y : UInt32) : bits .xor .u32 (u x) (u y) = u (x ^^^ y) := by
  unfold u; rw [u32_xor_nat _ _ x.toNat_lt y.toNat_lt, UInt32.toNat_xor]
theorem u_and (x y : UInt32) : bits .and .u32 (u x) (u y) = u (x &&& y) := by
  unfold u; rw [u32_and_nat _ _ x.toNat_lt y.toNat_lt, UInt32.toNat_and]
theorem u_or (x y : UInt32) : bits .or .u32 (u x) (u y) = u (x ||| y) := by
  unfold u; rw [u32_or_nat _ _ x.toNat_lt y.toNat_lt, UInt32.toNat_or]
theorem u_shr (x : UInt32) (n : Nat) (hn : n < 32) : u x / ((2 ^ n : Nat) : Int) = u (x >>> UInt32.ofNat n) := by
  unfold u
  rw [UInt32.toNat_shiftRight, UInt32.toNat_ofNat', Nat.shiftRight_eq_div_pow]
  rw [Nat.mod_eq_of_lt (show n < 2 ^ 32 by omega), Nat.mod_eq_of_lt hn]
  simp
theorem u_shl (x : UInt32) (n : Nat) (hn : n < 32) : IntKind.u32.wrap (u x * ((2 ^ n : Nat) : Int)) = u (x <<< UInt32.ofNat n) := by
  rw [IntKind.wrap_u32]
  unfold u
  rw [UInt32.toNat_shiftLeft, UInt32.toNat_ofNat', Nat.shiftLeft_eq]
  rw [Nat.mod_eq_of_lt (show n < 2 ^ 32 by omega), Nat.mod_eq_of_lt hn]
  have : ((x.toNat : Int) * ((2 ^ n : Nat) : Int)) = ((x.toNat * 2 ^ n : Nat) : Int) := by rw [Int.natCast_mul]
  rw [this]
  omega

def rotr (x n : UInt32) : UInt32 := (x >>> n) ||| (x <<< (32 - n))
def sm0 (x : UInt32) : UInt32 := rotr x 7 ^^^ rotr x 18 ^^^ (x >>> 3)
def sm1 (x : UInt32) : UInt32 := rotr x 17 ^^^ rotr x 19 ^^^ (x >>> 10)
def sg0 (x : UInt32) : UInt32 := rotr x 2 ^^^ rotr x 13 ^^^ rotr x 22
def sg1 (x : UInt32) : UInt32 := rotr x 6 ^^^ rotr x 11 ^^^ rotr x 25
def ch (e f g : UInt32) : UInt32 := (e &&& f) ^^^ (~~~e &&& g)
def maj (a b c : UInt32) : UInt32 := (a &&& b) ^^^ (a &&& c) ^^^ (b &&& c)

/-- the numbers of the rounds. -/
def kk : List UInt32 := [1116352408, 1899447441, 3049323471, 3921009573, 961987163, 1508970993, 2453635748, 2870763221, 3624381080, 310598401, 607225278, 1426881987, 1925078388, 2162078206, 2614888103, 3248222580, 3835390401, 4022224774, 264347078, 604807628, 770255983, 1249150122, 1555081692, 1996064986, 2554220882, 2821834349, 2952996808, 3210313671, 3336571891, 3584528711, 113926993, 338241895, 666307205, 773529912, 1294757372, 1396182291, 1695183700, 1986661051, 2177026350, 2456956037, 2730485921, 2820302411, 3259730800, 3345764771, 3516065817, 3600352804, 4094571909, 275423344, 430227734, 506948616, 659060556, 883997877, 958139571, 1322822218, 1537002063, 1747873779, 1955562222, 2024104815, 2227730452, 2361852424, 2428436474, 2756734187, 3204031479, 3329325298]

/-- the eight words of a state. -/
structure St where
  a : UInt32
  b : UInt32
  c : UInt32
  d : UInt32
  e : UInt32
  f : UInt32
  g : UInt32
  h : UInt32

def t1 (s : St) (k w : UInt32) : UInt32 := s.h + sg1 s.e + ch s.e s.f s.g + k + w
def t2 (s : St) : UInt32 := sg0 s.a + maj s.a s.b s.c
def rnd (s : St) (k w : UInt32) : St := ⟨t1 s k w + t2 s, s.a, s.b, s.c, s.d + t1 s k w, s.e, s.f, s.g⟩

/-- k bytes of the word at place j of a block, the highest first. -/
def wp (b : List UInt8) (j : Nat) : Nat → UInt32
  | 0 => 0
  | k + 1 => (wp b j k <<< 8) ||| (b.getD (4 * j + k) 0).toUInt32
def wd (b : List UInt8) (j : Nat) : UInt32 := wp b j 4

/-- the words of the rounds, n behind the first sixteen. -/
def sched (b : List UInt8) : Nat → List UInt32
  | 0 => (List.range 16).map (wd b)
  | n + 1 => let l := sched b n
    l ++ [l.getD n 0 + sm0 (l.getD (n + 1) 0) + l.getD (n + 9) 0 + sm1 (l.getD (n + 14) 0)]
/-- the word of round t. -/
def W (b : List UInt8) (t : Nat) : UInt32 := (sched b 48).getD t 0

theorem getD_left (l m : List UInt32) (t : Nat) (h : t < l.length) : (l ++ m).getD t 0 = l.getD t 0 := by
  simp only [List.getD_eq_getElem?_getD]
  rw [List.getElem?_append_left h]
theorem getD_right (l m : List UInt32) (t : Nat) (h : l.length ≤ t) : (l ++ m).getD t 0 = m.getD (t - l.length) 0 := by
  simp only [List.getD_eq_getElem?_getD]
  rw [List.getElem?_append_right h]
theorem sched_length (b : List UInt8) : ∀ n, (sched b n).length = 16 + n
  | 0 => by simp [sched]
  | n + 1 => by simp [sched, sched_length b n]; omega
theorem sched_more (b : List UInt8) : ∀ m n t, t < 16 + n → (sched b (n + m)).getD t 0 = (sched b n).getD t 0
  | 0, n, t, _ => rfl
  | m + 1, n, t, h => by
    rw [show n + (m + 1) = (n + m) + 1 by omega]
    simp only [sched]
    rw [getD_left _ _ _ (by rw [sched_length]; omega)]
    exact sched_more b m n t h
theorem sched_at (b : List UInt8) (n t : Nat) (hn : n ≤ 48) (h : t < 16 + n) : W b t = (sched b n).getD t 0 := by
  have := sched_more b (48 - n) n t h
  rw [show n + (48 - n) = 48 by omega] at this
  exact this
theorem W_first (b : List UInt8) (t : Nat) (h : t < 16) : W b t = wd b t := by
  rw [sched_at b 0 t (by omega) (by omega)]
  simp [sched, List.getD, h]
theorem W_next (b : List UInt8) (t : Nat) (h : 16 ≤ t) (h' : t < 64) : W b t = W b (t - 16) + sm0 (W b (t - 15)) + W b (t - 7) + sm1 (W b (t - 2)) := by
  obtain ⟨n, rfl⟩ : ∃ n, t = n + 16 := ⟨t - 16, by omega⟩
  rw [sched_at b (n + 1) (n + 16) (by omega) (by omega), sched_at b n (n + 16 - 16) (by omega) (by omega), sched_at b n (n + 16 - 15) (by omega) (by omega), sched_at b n (n + 16 - 7) (by omega) (by omega), sched_at b n (n + 16 - 2) (by omega) (by omega)]
  simp only [sched]
  rw [getD_right _ _ _ (by rw [sched_length]; omega), sched_length, show n + 16 - (16 + n) = 0 by omega, show n + 16 - 16 = n by omega, show n + 16 - 15 = n + 1 by omega, show n + 16 - 7 = n + 9 by omega, show n + 16 - 2 = n + 14 by omega]
  rfl

/-- the state behind t rounds. -/
def rounds (s : St) (b : List UInt8) : Nat → St
  | 0 => s
  | t + 1 => rnd (rounds s b t) (kk.getD t 0) (W b t)
/-- a state and a state, word by word. -/
def St.plus (s r : St) : St := ⟨s.a + r.a, s.b + r.b, s.c + r.c, s.d + r.d, s.e + r.e, s.f + r.f, s.g + r.g, s.h + r.h⟩
/-- the state behind a block. -/
def comp (s : St) (b : List UInt8) : St := s.plus (rounds s b 64)
def St.list (s : St) : List UInt32 := [s.a, s.b, s.c, s.d, s.e, s.f, s.g, s.h]
theorem St.list_length (s : St) : s.list.length = 8 := rfl

/-- where the circle of sixteen words has place j at the head of round t. -/
def circ (t j : Nat) : Nat := if j < t % 16 then t - t % 16 + j else t - t % 16 + j - 16
theorem circ_start (j : Nat) (h : j < 16) : circ 16 j = j := by unfold circ; simp
theorem circ_next (t j : Nat) (ht : 16 ≤ t) (h : j < 16) : circ (t + 1) j = if j = t % 16 then t else circ t j := by
  unfold circ
  split <;> split <;> (try split) <;> omega
theorem circ_0 (t : Nat) (ht : 16 ≤ t) : circ t (t % 16) = t - 16 := by unfold circ; split <;> omega
theorem circ_1 (t : Nat) (ht : 16 ≤ t) : circ t ((t + 1) % 16) = t - 15 := by unfold circ; split <;> omega
theorem circ_9 (t : Nat) (ht : 16 ≤ t) : circ t ((t + 9) % 16) = t - 7 := by unfold circ; split <;> omega
theorem circ_14 (t : Nat) (ht : 16 ≤ t) : circ t ((t + 14) % 16) = t - 2 := by unfold circ; split <;> omega

theorem bool_ext {x y : UInt32} (h : ∀ i : Nat, x.toBitVec.getLsbD i = y.toBitVec.getLsbD i) : x = y := by
  apply UInt32.toBitVec_inj.1
  apply BitVec.eq_of_getLsbD_eq
  intro i _
  exact h i
/-- the code's way to choose. -/
theorem ch_code (e f g : UInt32) : g ^^^ (e &&& (f ^^^ g)) = ch e f g := by
  apply bool_ext
  intro i
  unfold ch
  by_cases hi : i < 32
  · simp only [UInt32.toBitVec_xor, UInt32.toBitVec_and, UInt32.toBitVec_not, BitVec.getLsbD_xor, BitVec.getLsbD_and, BitVec.getLsbD_not, hi, decide_true, Bool.true_and]
    cases e.toBitVec.getLsbD i <;> cases f.toBitVec.getLsbD i <;> cases g.toBitVec.getLsbD i <;> rfl
  · simp [BitVec.getLsbD_of_ge _ _ (Nat.le_of_not_lt hi)]
/-- the code's way to vote. -/
theorem maj_code (a b c : UInt32) : (a &&& (b ||| c)) ||| (b &&& c) = maj a b c := by
  apply bool_ext
  intro i
  unfold maj
  simp only [UInt32.toBitVec_xor, UInt32.toBitVec_and, UInt32.toBitVec_or, BitVec.getLsbD_xor, BitVec.getLsbD_and, BitVec.getLsbD_or]
  cases a.toBitVec.getLsbD i <;> cases b.toBitVec.getLsbD i <;> cases c.toBitVec.getLsbD i <;> rfl
end Go.Proofs.YtjjdjdhkfmfchaaDoor.Sha

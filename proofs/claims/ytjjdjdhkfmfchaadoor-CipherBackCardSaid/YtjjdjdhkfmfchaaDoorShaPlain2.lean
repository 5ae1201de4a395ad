/- Plain SHA-256: blocks of a text, the state behind them. No program in sight. -/
import Derived.Test.YtjjdjdhkfmfchaaDoorShaPlain
namespace Go.Proofs.YtjjdjdhkfmfchaaDoor.Sha
set_option linter.unusedVariables false
set_option linter.unusedSimpArgs false

/-- the first state. -/
def H0 : St := ⟨1779033703, 3144134277, 1013904242, 2773480762, 1359893119, 2600822924, 528734635, 1541459225⟩
/-- the block of a text at place i. -/
def blk (m : List UInt8) (i : Nat) : List UInt8 := (m.drop (64 * i)).take 64
/-- the state behind the first k blocks of a text. -/
def stA (m : List UInt8) : Nat → St
  | 0 => H0
  | k + 1 => comp (stA m k) (blk m k)
theorem blk_append (m x : List UInt8) (i : Nat) (h : 64 * i + 64 ≤ m.length) : blk (m ++ x) i = blk m i := by
  unfold blk
  rw [List.drop_append_of_le_length (by omega), List.take_append_of_le_length (by rw [List.length_drop]; omega)]
theorem stA_append (m x : List UInt8) : ∀ k, 64 * k ≤ m.length → stA (m ++ x) k = stA m k
  | 0, _ => rfl
  | k + 1, h => by
    simp only [stA]
    rw [stA_append m x k (by omega), blk_append m x k (by omega)]

/-- a block's bytes, of which those that came are in front. -/
theorem wait_more {m x wait : List UInt8} {q a : Nat} (hm : m.length = 64 * q + a) (hw : wait.take a = m.drop (64 * q)) (ha : a ≤ wait.length) :
    (wait.take a ++ x ++ wait.drop (a + x.length)).take (a + x.length) = (m ++ x).drop (64 * q) := by
  rw [List.drop_append_of_le_length (by omega), ← hw]
  have hl : (wait.take a ++ x).length = a + x.length := by rw [List.length_append, List.length_take]; omega
  rw [← hl, List.take_left]
end Go.Proofs.YtjjdjdhkfmfchaaDoor.Sha

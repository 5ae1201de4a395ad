/- Sums under way, kept by what does not touch them. (In the seat of law02 the same lies in ShaCopiesLaw.) -/
import Derived.Test.YtjjdjdhkfmfchaaDoorShaW5
namespace Go.Proofs.YtjjdjdhkfmfchaaDoor
set_option linter.unusedVariables false
open Go.RowKit Sha
theorem Holds.below {w w' : World} {b : Nat} {m : List UInt8} (h : Holds w b m) (hb : Below w.heap.size w w') : Holds w' b m := h.kept (hb.block _ h.lt)
theorem Holds.other {w w' : World} {b c : Nat} {m : List UInt8} (h : Holds w b m) (hg : w.grownBy w' (some c)) (hne : b ≠ c) : Holds w' b m := h.kept (hg.block _ h.lt (fun e => hne (Option.some.inj e)))
theorem below_more {B : Nat} {w a b : World} (h : Below B w a) (k : Below a.heap.size a b) (hB : B ≤ a.heap.size) : Below B w b := h.trans (k.mono hB)
end Go.Proofs.YtjjdjdhkfmfchaaDoor

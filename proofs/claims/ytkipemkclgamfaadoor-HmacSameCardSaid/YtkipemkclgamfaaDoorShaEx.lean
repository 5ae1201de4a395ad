/- The sums of the standard's examples, reckoned by the kernel. -/
import Derived.Test.YtkipemkclgamfaaDoorShaPlain3
import Derived.KernelRfl
namespace Go.Proofs.YtkipemkclgamfaaDoor.Sha
set_option linter.unusedVariables false

def hexd (n : Nat) : UInt8 := [48, 49, 50, 51, 52, 53, 54, 55, 56, 57, 97, 98, 99, 100, 101, 102].getD n 0
def hexs (l : List UInt8) : List UInt8 := l.flatMap fun c => [hexd (c.toNat / 16), hexd (c.toNat % 16)]
set_option maxRecDepth 100000 in
theorem sha_abc : hexs (sha [97, 98, 99]) = [98, 97, 55, 56, 49, 54, 98, 102, 56, 102, 48, 49, 99, 102, 101, 97, 52, 49, 52, 49, 52, 48, 100, 101, 53, 100, 97, 101, 50, 50, 50, 51, 98, 48, 48, 51, 54, 49, 97, 51, 57, 54, 49, 55, 55, 97, 57, 99, 98, 52, 49, 48, 102, 102, 54, 49, 102, 50, 48, 48, 49, 53, 97, 100] := by
  decide +kernel
end Go.Proofs.YtkipemkclgamfaaDoor.Sha

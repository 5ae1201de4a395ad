/- The tags of the chapter's examples, reckoned by the kernel. -/
import Derived.Test.YtkipemkclgamfaaDoorHmacPlain
import Derived.Test.YtkipemkclgamfaaDoorShaEx
namespace Go.Proofs.YtkipemkclgamfaaDoor.Sha
set_option linter.unusedVariables false
def jefe : List UInt8 := [74, 101, 102, 101]
def want : List UInt8 := [119, 104, 97, 116, 32, 100, 111, 32, 121, 97, 32, 119, 97, 110, 116, 32, 102, 111, 114, 32, 110, 111, 116, 104, 105, 110, 103, 63]
def hexJ : List UInt8 := [53, 98, 100, 99, 99, 49, 52, 54, 98, 102, 54, 48, 55, 53, 52, 101, 54, 97, 48, 52, 50, 52, 50, 54, 48, 56, 57, 53, 55, 53, 99, 55, 53, 97, 48, 48, 51, 102, 48, 56, 57, 100, 50, 55, 51, 57, 56, 51, 57, 100, 101, 99, 53, 56, 98, 57, 54, 52, 101, 99, 51, 56, 52, 51]
def eleven : List UInt8 := [11, 11, 11, 11, 11, 11, 11, 11, 11, 11, 11, 11, 11, 11, 11, 11, 11, 11, 11, 11]
def hithere : List UInt8 := [72, 105, 32, 84, 104, 101, 114, 101]
def hexT : List UInt8 := [98, 48, 51, 52, 52, 99, 54, 49, 100, 56, 100, 98, 51, 56, 53, 51, 53, 99, 97, 56, 97, 102, 99, 101, 97, 102, 48, 98, 102, 49, 50, 98, 56, 56, 49, 100, 99, 50, 48, 48, 99, 57, 56, 51, 51, 100, 97, 55, 50, 54, 101, 57, 51, 55, 54, 99, 50, 101, 51, 50, 99, 102, 102, 55]
set_option maxRecDepth 100000 in
theorem hmac_jefe : hexs (hmac jefe want) = hexJ := by
  decide +kernel
set_option maxRecDepth 100000 in
theorem hmac_eleven : hexs (hmac eleven hithere) = hexT := by
  decide +kernel
end Go.Proofs.YtkipemkclgamfaaDoor.Sha

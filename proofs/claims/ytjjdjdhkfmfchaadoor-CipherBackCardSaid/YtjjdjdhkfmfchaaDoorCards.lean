/-
  DERIVED. GIVEN WITH THE SEED: THE CARDS: each row of YtjjdjdhkfmfchaaDoorRows.lean that lists a variable, with what it lists TIED to the program's text (the seventh form; the later family's looks); each row that meets fmt, with fmt's text TOLD by the authors' own Lean function (tested against real Go, not proved from fmt's source: count such statements apart). THE CARD IS WHAT COUNTS. Prove the row's statement (the work); the ties are given (YtjjdjdhkfmfchaaDoorTie.lean); close each card by the builder's one call (the guide's Derived/Test/ToyasCard.lean, 'card_holds'). Laid BY PROGRAM, IN A SANDBOX (cutbox-door.mjs). By AI agents, Wed Nov 11 2026. No macro, syntax, notation, axiom, sorry.
-/
import Derived.Test.YtjjdjdhkfmfchaaDoorRows
import GoSem.ClaimSeven
namespace Go.Proofs.YtjjdjdhkfmfchaaDoor
namespace Rows

/-- THE TIED CARD OF 'chirographlaw04.CipherSeals'. -/
def cipherSealsCard : Claim7 := { stood := { row := cipherSealsRow, standIns := [], harness := (true, "5dddbed8db1b4c547413168aebd564e1f722c80dfc6bca28133359d91a81d70f"), looks := false }, kinds := [], alts := [], laidByText := true, laidKinds := [.data], laidTests := true, laidLooks := .later }
def CipherSealsCardSaid : Prop := Claim7.holds Tryd.pinned (.plain (OpenSpec.ofChange cipherSealsSpec)) cipherSealsCard

/-- THE TIED CARD OF 'chirographlaw04.CipherOpens'. -/
def cipherOpensCard : Claim7 := { stood := { row := cipherOpensRow, standIns := [], harness := (true, "5dddbed8db1b4c547413168aebd564e1f722c80dfc6bca28133359d91a81d70f"), looks := false }, kinds := [], alts := [], laidByText := true, laidKinds := [.data], laidTests := true, laidLooks := .later }
def CipherOpensCardSaid : Prop := Claim7.holds Tryd.pinned (.plain (OpenSpec.ofChange cipherOpensSpec)) cipherOpensCard

/-- THE TIED CARD OF 'chirographlaw04.CipherBack'. -/
def cipherBackCard : Claim7 := { stood := { row := cipherBackRow, standIns := [], harness := (true, "5dddbed8db1b4c547413168aebd564e1f722c80dfc6bca28133359d91a81d70f"), looks := false }, kinds := [], alts := [], laidByText := true, laidKinds := [.data], laidTests := true, laidLooks := .later }
def CipherBackCardSaid : Prop := Claim7.holds Tryd.pinned (.plain (OpenSpec.ofChange cipherBackSpec)) cipherBackCard

/-- THE TIED CARD OF 'chirographlaw04.CipherTwice'. -/
def cipherTwiceCard : Claim7 := { stood := { row := cipherTwiceRow, standIns := [], harness := (true, "5dddbed8db1b4c547413168aebd564e1f722c80dfc6bca28133359d91a81d70f"), looks := false }, kinds := [], alts := [], laidByText := true, laidKinds := [.data], laidTests := true, laidLooks := .later }
def CipherTwiceCardSaid : Prop := Claim7.holds Tryd.pinned (.plain (OpenSpec.ofChange cipherTwiceSpec)) cipherTwiceCard

/-- THE SECOND FORM's CARD OF 'chirographlaw04.CipherSeals'. -/
def cipherSealsUptoCard : Claim7 := { stood := { row := cipherSealsUptoRow, standIns := [], harness := (true, "5dddbed8db1b4c547413168aebd564e1f722c80dfc6bca28133359d91a81d70f"), looks := false }, kinds := [], alts := [], laidByText := true, laidKinds := [.data], laidTests := true, laidLooks := .later }
def CipherSealsUptoCardSaid : Prop := Claim7.holds Tryd.pinned (.plain (OpenSpec.upto cipherSealsSpec)) cipherSealsUptoCard

/-- THE SECOND FORM's CARD OF 'chirographlaw04.CipherOpens'. -/
def cipherOpensUptoCard : Claim7 := { stood := { row := cipherOpensUptoRow, standIns := [], harness := (true, "5dddbed8db1b4c547413168aebd564e1f722c80dfc6bca28133359d91a81d70f"), looks := false }, kinds := [], alts := [], laidByText := true, laidKinds := [.data], laidTests := true, laidLooks := .later }
def CipherOpensUptoCardSaid : Prop := Claim7.holds Tryd.pinned (.plain (OpenSpec.upto cipherOpensSpec)) cipherOpensUptoCard

/-- THE SECOND FORM's CARD OF 'chirographlaw04.CipherBack'. -/
def cipherBackUptoCard : Claim7 := { stood := { row := cipherBackUptoRow, standIns := [], harness := (true, "5dddbed8db1b4c547413168aebd564e1f722c80dfc6bca28133359d91a81d70f"), looks := false }, kinds := [], alts := [], laidByText := true, laidKinds := [.data], laidTests := true, laidLooks := .later }
def CipherBackUptoCardSaid : Prop := Claim7.holds Tryd.pinned (.plain (OpenSpec.upto cipherBackSpec)) cipherBackUptoCard

/-- THE SECOND FORM's CARD OF 'chirographlaw04.CipherTwice'. -/
def cipherTwiceUptoCard : Claim7 := { stood := { row := cipherTwiceUptoRow, standIns := [], harness := (true, "5dddbed8db1b4c547413168aebd564e1f722c80dfc6bca28133359d91a81d70f"), looks := false }, kinds := [], alts := [], laidByText := true, laidKinds := [.data], laidTests := true, laidLooks := .later }
def CipherTwiceUptoCardSaid : Prop := Claim7.holds Tryd.pinned (.plain (OpenSpec.upto cipherTwiceSpec)) cipherTwiceUptoCard
end Rows
end Go.Proofs.YtjjdjdhkfmfchaaDoor

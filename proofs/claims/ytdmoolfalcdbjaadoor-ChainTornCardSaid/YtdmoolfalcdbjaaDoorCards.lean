/-
  DERIVED. GIVEN WITH THE SEED: THE CARDS: each row of YtdmoolfalcdbjaaDoorRows.lean that lists a variable, with what it lists TIED to the program's text (the seventh form; the later family's looks); each row that meets fmt, with fmt's text TOLD by the authors' own Lean function (tested against real Go, not proved from fmt's source: count such statements apart). THE CARD IS WHAT COUNTS. Prove the row's statement (the work); the ties are given (YtdmoolfalcdbjaaDoorTie.lean); close each card by the builder's one call (the guide's Derived/Test/ToyasCard.lean, 'card_holds'). Laid BY PROGRAM, IN A SANDBOX (cutbox-door.mjs). By AI agents, Wed Nov 11 2026. No macro, syntax, notation, axiom, sorry.
-/
import Derived.Test.YtdmoolfalcdbjaaDoorRows
import GoSem.ClaimSeven
namespace Go.Proofs.YtdmoolfalcdbjaaDoor
namespace Rows

/-- THE TIED CARD OF 'chirographlaw16.ChainScans'. -/
def chainScansCard : Claim7 := { stood := { row := chainScansRow, standIns := [], harness := (true, "d4ccbe6869106e4cee482e4472833093005a99dc9b81178906c28e7de7d16450"), looks := false }, kinds := [], alts := [], laidByText := true, laidKinds := [.data], laidTests := true, laidLooks := .later }
def ChainScansCardSaid : Prop := Claim7.holds Tryd.pinned (.plain (OpenSpec.ofChange chainScansSpec)) chainScansCard

/-- THE TIED CARD OF 'chirographlaw16.ChainTorn'. -/
def chainTornCard : Claim7 := { stood := { row := chainTornRow, standIns := [], harness := (true, "d4ccbe6869106e4cee482e4472833093005a99dc9b81178906c28e7de7d16450"), looks := false }, kinds := [], alts := [], laidByText := true, laidKinds := [.data], laidTests := true, laidLooks := .later }
def ChainTornCardSaid : Prop := Claim7.holds Tryd.pinned (.plain (OpenSpec.ofChange chainTornSpec)) chainTornCard

/-- THE TIED CARD OF 'chirographlaw16.ChainOn'. -/
def chainOnCard : Claim7 := { stood := { row := chainOnRow, standIns := [], harness := (true, "d4ccbe6869106e4cee482e4472833093005a99dc9b81178906c28e7de7d16450"), looks := false }, kinds := [], alts := [], laidByText := true, laidKinds := [.data], laidTests := true, laidLooks := .later }
def ChainOnCardSaid : Prop := Claim7.holds Tryd.pinned (.plain (OpenSpec.ofChange chainOnSpec)) chainOnCard

/-- THE TIED CARD OF 'chirographlaw16.ChainFrames'. -/
def chainFramesCard : Claim7 := { stood := { row := chainFramesRow, standIns := [], harness := (true, "d4ccbe6869106e4cee482e4472833093005a99dc9b81178906c28e7de7d16450"), looks := false }, kinds := [], alts := [], laidByText := true, laidKinds := [.data], laidTests := true, laidLooks := .later }
def ChainFramesCardSaid : Prop := Claim7.holds Tryd.pinned (.plain (OpenSpec.ofChange chainFramesSpec)) chainFramesCard

/-- THE TIED CARD OF 'chirographlaw16.ChainBack'. -/
def chainBackCard : Claim7 := { stood := { row := chainBackRow, standIns := [], harness := (true, "d4ccbe6869106e4cee482e4472833093005a99dc9b81178906c28e7de7d16450"), looks := false }, kinds := [], alts := [], laidByText := true, laidKinds := [.data], laidTests := true, laidLooks := .later }
def ChainBackCardSaid : Prop := Claim7.holds Tryd.pinned (.plain (OpenSpec.ofChange chainBackSpec)) chainBackCard

/-- THE SECOND FORM's CARD OF 'chirographlaw16.ChainScans'. -/
def chainScansUptoCard : Claim7 := { stood := { row := chainScansUptoRow, standIns := [], harness := (true, "d4ccbe6869106e4cee482e4472833093005a99dc9b81178906c28e7de7d16450"), looks := false }, kinds := [], alts := [], laidByText := true, laidKinds := [.data], laidTests := true, laidLooks := .later }
def ChainScansUptoCardSaid : Prop := Claim7.holds Tryd.pinned (.plain (OpenSpec.upto chainScansSpec)) chainScansUptoCard

/-- THE SECOND FORM's CARD OF 'chirographlaw16.ChainTorn'. -/
def chainTornUptoCard : Claim7 := { stood := { row := chainTornUptoRow, standIns := [], harness := (true, "d4ccbe6869106e4cee482e4472833093005a99dc9b81178906c28e7de7d16450"), looks := false }, kinds := [], alts := [], laidByText := true, laidKinds := [.data], laidTests := true, laidLooks := .later }
def ChainTornUptoCardSaid : Prop := Claim7.holds Tryd.pinned (.plain (OpenSpec.upto chainTornSpec)) chainTornUptoCard

/-- THE SECOND FORM's CARD OF 'chirographlaw16.ChainOn'. -/
def chainOnUptoCard : Claim7 := { stood := { row := chainOnUptoRow, standIns := [], harness := (true, "d4ccbe6869106e4cee482e4472833093005a99dc9b81178906c28e7de7d16450"), looks := false }, kinds := [], alts := [], laidByText := true, laidKinds := [.data], laidTests := true, laidLooks := .later }
def ChainOnUptoCardSaid : Prop := Claim7.holds Tryd.pinned (.plain (OpenSpec.upto chainOnSpec)) chainOnUptoCard

/-- THE SECOND FORM's CARD OF 'chirographlaw16.ChainFrames'. -/
def chainFramesUptoCard : Claim7 := { stood := { row := chainFramesUptoRow, standIns := [], harness := (true, "d4ccbe6869106e4cee482e4472833093005a99dc9b81178906c28e7de7d16450"), looks := false }, kinds := [], alts := [], laidByText := true, laidKinds := [.data], laidTests := true, laidLooks := .later }
def ChainFramesUptoCardSaid : Prop := Claim7.holds Tryd.pinned (.plain (OpenSpec.upto chainFramesSpec)) chainFramesUptoCard

/-- THE SECOND FORM's CARD OF 'chirographlaw16.ChainBack'. -/
def chainBackUptoCard : Claim7 := { stood := { row := chainBackUptoRow, standIns := [], harness := (true, "d4ccbe6869106e4cee482e4472833093005a99dc9b81178906c28e7de7d16450"), looks := false }, kinds := [], alts := [], laidByText := true, laidKinds := [.data], laidTests := true, laidLooks := .later }
def ChainBackUptoCardSaid : Prop := Claim7.holds Tryd.pinned (.plain (OpenSpec.upto chainBackSpec)) chainBackUptoCard
end Rows
end Go.Proofs.YtdmoolfalcdbjaaDoor

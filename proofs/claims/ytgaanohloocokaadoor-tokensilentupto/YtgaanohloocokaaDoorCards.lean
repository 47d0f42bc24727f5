/-
  DERIVED. GIVEN WITH THE SEED: THE CARDS: each row of YtgaanohloocokaaDoorRows.lean that lists a variable, with what it lists TIED to the program's text (the seventh form; the later family's looks); each row that meets fmt, with fmt's text TOLD by the authors' own Lean function (tested against real Go, not proved from fmt's source: count such statements apart). THE CARD IS WHAT COUNTS. Prove the row's statement (the work); the ties are given (YtgaanohloocokaaDoorTie.lean); close each card by the builder's one call (the guide's Derived/Test/ToyasCard.lean, 'card_holds'). Laid BY PROGRAM, IN A SANDBOX (cutbox-door.mjs). By AI agents, Wed Nov 11 2026. No macro, syntax, notation, axiom, sorry.
-/
import Derived.Test.YtgaanohloocokaaDoorRows
import GoSem.ClaimSeven
namespace Go.Proofs.YtgaanohloocokaaDoor
namespace Rows

/-- THE TIED CARD OF 'phasorlaw04.TokenSpots'. -/
def tokenSpotsCard : Claim7 := { stood := { row := tokenSpotsRow, standIns := [], harness := (true, "cd6049ae3586a830f98c8f1d042b9860aaecad143bd8e571eb024f6015124cf4"), looks := true }, kinds := [], alts := [], laidByText := true, laidKinds := [.data, .data, .data, .data, .sentinel, .sentinel, .pinned], laidTests := true, laidLooks := .later }
def TokenSpotsCardSaid : Prop := Claim7.holds Tryd.pinned (.plain (OpenSpec.ofChange tokenSpotsSpec)) tokenSpotsCard

/-- THE TIED CARD OF 'phasorlaw04.TokenScans'. -/
def tokenScansCard : Claim7 := { stood := { row := tokenScansRow, standIns := [], harness := (true, "cd6049ae3586a830f98c8f1d042b9860aaecad143bd8e571eb024f6015124cf4"), looks := true }, kinds := [], alts := [], laidByText := true, laidKinds := [.data, .data, .data, .data, .sentinel, .sentinel, .pinned], laidTests := true, laidLooks := .later }
def TokenScansCardSaid : Prop := Claim7.holds Tryd.pinned (.plain (OpenSpec.ofChange tokenScansSpec)) tokenScansCard

/-- THE TIED CARD OF 'phasorlaw04.TokenWrites'. -/
def tokenWritesCard : Claim7 := { stood := { row := tokenWritesRow, standIns := [], harness := (true, "cd6049ae3586a830f98c8f1d042b9860aaecad143bd8e571eb024f6015124cf4"), looks := true }, kinds := [], alts := [], laidByText := true, laidKinds := [.data, .data, .data, .data, .sentinel, .sentinel, .pinned], laidTests := true, laidLooks := .later }
def TokenWritesCardSaid : Prop := Claim7.holds Tryd.pinned (.plain (OpenSpec.ofChange tokenWritesSpec)) tokenWritesCard

/-- THE TIED CARD OF 'phasorlaw04.TokenBack'. -/
def tokenBackCard : Claim7 := { stood := { row := tokenBackRow, standIns := [], harness := (true, "cd6049ae3586a830f98c8f1d042b9860aaecad143bd8e571eb024f6015124cf4"), looks := true }, kinds := [], alts := [], laidByText := true, laidKinds := [.data, .data, .data, .data, .sentinel, .sentinel, .pinned], laidTests := true, laidLooks := .later }
def TokenBackCardSaid : Prop := Claim7.holds Tryd.pinned (.plain (OpenSpec.ofChange tokenBackSpec)) tokenBackCard

/-- THE TIED CARD OF 'phasorlaw04.TokenSilent'. -/
def tokenSilentCard : Claim7 := { stood := { row := tokenSilentRow, standIns := [], harness := (true, "cd6049ae3586a830f98c8f1d042b9860aaecad143bd8e571eb024f6015124cf4"), looks := true }, kinds := [], alts := [], laidByText := true, laidKinds := [.data, .data, .data, .data, .sentinel, .sentinel, .pinned], laidTests := true, laidLooks := .later }
def TokenSilentCardSaid : Prop := Claim7.holds Tryd.pinned (.plain (OpenSpec.ofChange tokenSilentSpec)) tokenSilentCard

/-- THE TIED CARD OF 'phasorlaw04.TokenFirst'. -/
def tokenFirstCard : Claim7 := { stood := { row := tokenFirstRow, standIns := [], harness := (true, "cd6049ae3586a830f98c8f1d042b9860aaecad143bd8e571eb024f6015124cf4"), looks := true }, kinds := [], alts := [], laidByText := true, laidKinds := [.data, .data, .data, .data, .sentinel, .sentinel, .pinned], laidTests := true, laidLooks := .later }
def TokenFirstCardSaid : Prop := Claim7.holds Tryd.pinned (.plain (OpenSpec.ofChange tokenFirstSpec)) tokenFirstCard

/-- THE SECOND FORM's CARD OF 'phasorlaw04.TokenSpots'. -/
def tokenSpotsUptoCard : Claim7 := { stood := { row := tokenSpotsUptoRow, standIns := [], harness := (true, "cd6049ae3586a830f98c8f1d042b9860aaecad143bd8e571eb024f6015124cf4"), looks := true }, kinds := [], alts := [], laidByText := true, laidKinds := [.data, .data, .data, .data, .sentinel, .sentinel, .pinned], laidTests := true, laidLooks := .later }
def TokenSpotsUptoCardSaid : Prop := Claim7.holds Tryd.pinned (.plain (OpenSpec.upto tokenSpotsSpec)) tokenSpotsUptoCard

/-- THE SECOND FORM's CARD OF 'phasorlaw04.TokenScans'. -/
def tokenScansUptoCard : Claim7 := { stood := { row := tokenScansUptoRow, standIns := [], harness := (true, "cd6049ae3586a830f98c8f1d042b9860aaecad143bd8e571eb024f6015124cf4"), looks := true }, kinds := [], alts := [], laidByText := true, laidKinds := [.data, .data, .data, .data, .sentinel, .sentinel, .pinned], laidTests := true, laidLooks := .later }
def TokenScansUptoCardSaid : Prop := Claim7.holds Tryd.pinned (.plain (OpenSpec.upto tokenScansSpec)) tokenScansUptoCard

/-- THE SECOND FORM's CARD OF 'phasorlaw04.TokenWrites'. -/
def tokenWritesUptoCard : Claim7 := { stood := { row := tokenWritesUptoRow, standIns := [], harness := (true, "cd6049ae3586a830f98c8f1d042b9860aaecad143bd8e571eb024f6015124cf4"), looks := true }, kinds := [], alts := [], laidByText := true, laidKinds := [.data, .data, .data, .data, .sentinel, .sentinel, .pinned], laidTests := true, laidLooks := .later }
def TokenWritesUptoCardSaid : Prop := Claim7.holds Tryd.pinned (.plain (OpenSpec.upto tokenWritesSpec)) tokenWritesUptoCard

/-- THE SECOND FORM's CARD OF 'phasorlaw04.TokenBack'. -/
def tokenBackUptoCard : Claim7 := { stood := { row := tokenBackUptoRow, standIns := [], harness := (true, "cd6049ae3586a830f98c8f1d042b9860aaecad143bd8e571eb024f6015124cf4"), looks := true }, kinds := [], alts := [], laidByText := true, laidKinds := [.data, .data, .data, .data, .sentinel, .sentinel, .pinned], laidTests := true, laidLooks := .later }
def TokenBackUptoCardSaid : Prop := Claim7.holds Tryd.pinned (.plain (OpenSpec.upto tokenBackSpec)) tokenBackUptoCard

/-- THE SECOND FORM's CARD OF 'phasorlaw04.TokenSilent'. -/
def tokenSilentUptoCard : Claim7 := { stood := { row := tokenSilentUptoRow, standIns := [], harness := (true, "cd6049ae3586a830f98c8f1d042b9860aaecad143bd8e571eb024f6015124cf4"), looks := true }, kinds := [], alts := [], laidByText := true, laidKinds := [.data, .data, .data, .data, .sentinel, .sentinel, .pinned], laidTests := true, laidLooks := .later }
def TokenSilentUptoCardSaid : Prop := Claim7.holds Tryd.pinned (.plain (OpenSpec.upto tokenSilentSpec)) tokenSilentUptoCard

/-- THE SECOND FORM's CARD OF 'phasorlaw04.TokenFirst'. -/
def tokenFirstUptoCard : Claim7 := { stood := { row := tokenFirstUptoRow, standIns := [], harness := (true, "cd6049ae3586a830f98c8f1d042b9860aaecad143bd8e571eb024f6015124cf4"), looks := true }, kinds := [], alts := [], laidByText := true, laidKinds := [.data, .data, .data, .data, .sentinel, .sentinel, .pinned], laidTests := true, laidLooks := .later }
def TokenFirstUptoCardSaid : Prop := Claim7.holds Tryd.pinned (.plain (OpenSpec.upto tokenFirstSpec)) tokenFirstUptoCard
end Rows
end Go.Proofs.YtgaanohloocokaaDoor

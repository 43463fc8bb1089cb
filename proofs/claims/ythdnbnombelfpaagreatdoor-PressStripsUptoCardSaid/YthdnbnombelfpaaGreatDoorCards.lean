/-
  DERIVED. GIVEN WITH THE SEED: THE CARDS: each row of YthdnbnombelfpaaGreatDoorRows.lean that lists a variable, with what it lists TIED to the program's text (the seventh form; the later family's looks); each row that meets fmt, with fmt's text TOLD by the authors' own Lean function (tested against real Go, not proved from fmt's source: count such statements apart). THE CARD IS WHAT COUNTS. Prove the row's statement (the work); the ties are given (YthdnbnombelfpaaGreatDoorTie.lean); close each card by the builder's one call (the guide's Derived/Test/ToyasCard.lean, 'card_holds'). Laid BY PROGRAM, IN A SANDBOX (cutbox-door.mjs). By AI agents, Wed Nov 11 2026. No macro, syntax, notation, axiom, sorry.
-/
import Derived.Test.YthdnbnombelfpaaGreatDoorRows
import GoSem.ClaimSeven
namespace Go.Proofs.YthdnbnombelfpaaGreatDoor
namespace Rows

/-- THE TIED CARD OF 'broadsheetlaw16.PressSmall'. -/
def pressSmallCard : Claim7 := { stood := { row := pressSmallRow, standIns := [], harness := (true, "d6edb029c8d169ccd92630f3c407faa35005eacf3f0fee9e5f8d104c5eb93f6a"), looks := false }, kinds := [], alts := [], laidByText := true, laidKinds := [.data, .data, .data, .data, .pinned], laidTests := true, laidLooks := .later }
def PressSmallCardSaid : Prop := Claim7.holds Tryz.pinned (.plain (OpenSpec.ofChange pressSmallSpec)) pressSmallCard

/-- THE TIED CARD OF 'broadsheetlaw16.PressAgain'. -/
def pressAgainCard : Claim7 := { stood := { row := pressAgainRow, standIns := [], harness := (true, "d6edb029c8d169ccd92630f3c407faa35005eacf3f0fee9e5f8d104c5eb93f6a"), looks := false }, kinds := [], alts := [], laidByText := true, laidKinds := [.data, .data, .data, .data, .pinned], laidTests := true, laidLooks := .later }
def PressAgainCardSaid : Prop := Claim7.holds Tryz.pinned (.plain (OpenSpec.ofChange pressAgainSpec)) pressAgainCard

/-- THE TIED CARD OF 'broadsheetlaw16.PressStored'. -/
def pressStoredCard : Claim7 := { stood := { row := pressStoredRow, standIns := [], harness := (true, "d6edb029c8d169ccd92630f3c407faa35005eacf3f0fee9e5f8d104c5eb93f6a"), looks := false }, kinds := [], alts := [], laidByText := true, laidKinds := [.data, .data, .data, .data, .pinned], laidTests := true, laidLooks := .later }
def PressStoredCardSaid : Prop := Claim7.holds Tryz.pinned (.plain (OpenSpec.ofChange pressStoredSpec)) pressStoredCard

/-- THE TIED CARD OF 'broadsheetlaw16.PressStrips'. -/
def pressStripsCard : Claim7 := { stood := { row := pressStripsRow, standIns := [], harness := (true, "d6edb029c8d169ccd92630f3c407faa35005eacf3f0fee9e5f8d104c5eb93f6a"), looks := false }, kinds := [], alts := [], laidByText := true, laidKinds := [.data, .data, .data, .data, .pinned], laidTests := true, laidLooks := .later }
def PressStripsCardSaid : Prop := Claim7.holds Tryz.pinned (.plain (OpenSpec.ofChange pressStripsSpec)) pressStripsCard

/-- THE SECOND FORM's CARD OF 'broadsheetlaw16.PressSmall'. -/
def pressSmallUptoCard : Claim7 := { stood := { row := pressSmallUptoRow, standIns := [], harness := (true, "d6edb029c8d169ccd92630f3c407faa35005eacf3f0fee9e5f8d104c5eb93f6a"), looks := false }, kinds := [], alts := [], laidByText := true, laidKinds := [.data, .data, .data, .data, .pinned], laidTests := true, laidLooks := .later }
def PressSmallUptoCardSaid : Prop := Claim7.holds Tryz.pinned (.plain (OpenSpec.upto pressSmallSpec)) pressSmallUptoCard

/-- THE SECOND FORM's CARD OF 'broadsheetlaw16.PressAgain'. -/
def pressAgainUptoCard : Claim7 := { stood := { row := pressAgainUptoRow, standIns := [], harness := (true, "d6edb029c8d169ccd92630f3c407faa35005eacf3f0fee9e5f8d104c5eb93f6a"), looks := false }, kinds := [], alts := [], laidByText := true, laidKinds := [.data, .data, .data, .data, .pinned], laidTests := true, laidLooks := .later }
def PressAgainUptoCardSaid : Prop := Claim7.holds Tryz.pinned (.plain (OpenSpec.upto pressAgainSpec)) pressAgainUptoCard

/-- THE SECOND FORM's CARD OF 'broadsheetlaw16.PressStored'. -/
def pressStoredUptoCard : Claim7 := { stood := { row := pressStoredUptoRow, standIns := [], harness := (true, "d6edb029c8d169ccd92630f3c407faa35005eacf3f0fee9e5f8d104c5eb93f6a"), looks := false }, kinds := [], alts := [], laidByText := true, laidKinds := [.data, .data, .data, .data, .pinned], laidTests := true, laidLooks := .later }
def PressStoredUptoCardSaid : Prop := Claim7.holds Tryz.pinned (.plain (OpenSpec.upto pressStoredSpec)) pressStoredUptoCard

/-- THE SECOND FORM's CARD OF 'broadsheetlaw16.PressStrips'. -/
def pressStripsUptoCard : Claim7 := { stood := { row := pressStripsUptoRow, standIns := [], harness := (true, "d6edb029c8d169ccd92630f3c407faa35005eacf3f0fee9e5f8d104c5eb93f6a"), looks := false }, kinds := [], alts := [], laidByText := true, laidKinds := [.data, .data, .data, .data, .pinned], laidTests := true, laidLooks := .later }
def PressStripsUptoCardSaid : Prop := Claim7.holds Tryz.pinned (.plain (OpenSpec.upto pressStripsSpec)) pressStripsUptoCard
end Rows
end Go.Proofs.YthdnbnombelfpaaGreatDoor

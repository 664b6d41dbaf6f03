/-
  DERIVED. GIVEN WITH THE SEED: THE CARDS: each row of YtmidijokooidcaaDoorRows.lean that lists a variable, with what it lists TIED to the program's text (the seventh form; the later family's looks); each row that meets fmt, with fmt's text TOLD by the authors' own Lean function (tested against real Go, not proved from fmt's source: count such statements apart). THE CARD IS WHAT COUNTS. Prove the row's statement (the work); the ties are given (YtmidijokooidcaaDoorTie.lean); close each card by the builder's one call (the guide's Derived/Test/ToyasCard.lean, 'card_holds'). Laid BY PROGRAM, IN A SANDBOX (cutbox-door.mjs). By AI agents, Wed Nov 11 2026. No macro, syntax, notation, axiom, sorry.
-/
import Derived.Test.YtmidijokooidcaaDoorRows
import GoSem.ClaimSeven
namespace Go.Proofs.YtmidijokooidcaaDoor
namespace Rows

/-- THE TIED CARD OF 'sennitlaw33.ConsoleParses'. -/
def consoleParsesCard : Claim7 := { stood := { row := consoleParsesRow, standIns := [], harness := (true, "453c435ff332c525757b9b79a564623bd9a9f0e185afacc358748a4b5738975d"), looks := false }, kinds := [], alts := [], laidByText := true, laidKinds := [.data, .data, .data, .data, .pinned], laidTests := true, laidLooks := .later }
def ConsoleParsesCardSaid : Prop := Claim7.holds Tryd.pinned (.plain (OpenSpec.ofChange consoleParsesSpec)) consoleParsesCard

/-- THE TIED CARD OF 'sennitlaw33.ConsoleAgain'. -/
def consoleAgainCard : Claim7 := { stood := { row := consoleAgainRow, standIns := [], harness := (true, "453c435ff332c525757b9b79a564623bd9a9f0e185afacc358748a4b5738975d"), looks := false }, kinds := [], alts := [], laidByText := true, laidKinds := [.data, .data, .data, .data, .pinned], laidTests := true, laidLooks := .later }
def ConsoleAgainCardSaid : Prop := Claim7.holds Tryd.pinned (.plain (OpenSpec.ofChange consoleAgainSpec)) consoleAgainCard

/-- THE TIED CARD OF 'sennitlaw33.ConsoleNames'. -/
def consoleNamesCard : Claim7 := { stood := { row := consoleNamesRow, standIns := [], harness := (true, "453c435ff332c525757b9b79a564623bd9a9f0e185afacc358748a4b5738975d"), looks := false }, kinds := [], alts := [], laidByText := true, laidKinds := [.data, .data, .data, .data, .pinned], laidTests := true, laidLooks := .later }
def ConsoleNamesCardSaid : Prop := Claim7.holds Tryd.pinned (.plain (OpenSpec.ofChange consoleNamesSpec)) consoleNamesCard

/-- THE TIED CARD OF 'sennitlaw33.ConsolePrints'. -/
def consolePrintsCard : Claim7 := { stood := { row := consolePrintsRow, standIns := [], harness := (true, "453c435ff332c525757b9b79a564623bd9a9f0e185afacc358748a4b5738975d"), looks := false }, kinds := [], alts := [], laidByText := true, laidKinds := [.data, .data, .data, .data, .pinned], laidTests := true, laidLooks := .later }
def ConsolePrintsCardSaid : Prop := Claim7.holds Tryd.pinned (.plain (OpenSpec.ofChange consolePrintsSpec)) consolePrintsCard

/-- THE TIED CARD OF 'sennitlaw33.ConsoleBack'. -/
def consoleBackCard : Claim7 := { stood := { row := consoleBackRow, standIns := [], harness := (true, "453c435ff332c525757b9b79a564623bd9a9f0e185afacc358748a4b5738975d"), looks := false }, kinds := [], alts := [], laidByText := true, laidKinds := [.data, .data, .data, .data, .pinned], laidTests := true, laidLooks := .later }
def ConsoleBackCardSaid : Prop := Claim7.holds Tryd.pinned (.plain (OpenSpec.ofChange consoleBackSpec)) consoleBackCard

/-- THE SECOND FORM's CARD OF 'sennitlaw33.ConsoleParses'. -/
def consoleParsesUptoCard : Claim7 := { stood := { row := consoleParsesUptoRow, standIns := [], harness := (true, "453c435ff332c525757b9b79a564623bd9a9f0e185afacc358748a4b5738975d"), looks := false }, kinds := [], alts := [], laidByText := true, laidKinds := [.data, .data, .data, .data, .pinned], laidTests := true, laidLooks := .later }
def ConsoleParsesUptoCardSaid : Prop := Claim7.holds Tryd.pinned (.plain (OpenSpec.upto consoleParsesSpec)) consoleParsesUptoCard

/-- THE SECOND FORM's CARD OF 'sennitlaw33.ConsoleAgain'. -/
def consoleAgainUptoCard : Claim7 := { stood := { row := consoleAgainUptoRow, standIns := [], harness := (true, "453c435ff332c525757b9b79a564623bd9a9f0e185afacc358748a4b5738975d"), looks := false }, kinds := [], alts := [], laidByText := true, laidKinds := [.data, .data, .data, .data, .pinned], laidTests := true, laidLooks := .later }
def ConsoleAgainUptoCardSaid : Prop := Claim7.holds Tryd.pinned (.plain (OpenSpec.upto consoleAgainSpec)) consoleAgainUptoCard

/-- THE SECOND FORM's CARD OF 'sennitlaw33.ConsoleNames'. -/
def consoleNamesUptoCard : Claim7 := { stood := { row := consoleNamesUptoRow, standIns := [], harness := (true, "453c435ff332c525757b9b79a564623bd9a9f0e185afacc358748a4b5738975d"), looks := false }, kinds := [], alts := [], laidByText := true, laidKinds := [.data, .data, .data, .data, .pinned], laidTests := true, laidLooks := .later }
def ConsoleNamesUptoCardSaid : Prop := Claim7.holds Tryd.pinned (.plain (OpenSpec.upto consoleNamesSpec)) consoleNamesUptoCard

/-- THE SECOND FORM's CARD OF 'sennitlaw33.ConsolePrints'. -/
def consolePrintsUptoCard : Claim7 := { stood := { row := consolePrintsUptoRow, standIns := [], harness := (true, "453c435ff332c525757b9b79a564623bd9a9f0e185afacc358748a4b5738975d"), looks := false }, kinds := [], alts := [], laidByText := true, laidKinds := [.data, .data, .data, .data, .pinned], laidTests := true, laidLooks := .later }
def ConsolePrintsUptoCardSaid : Prop := Claim7.holds Tryd.pinned (.plain (OpenSpec.upto consolePrintsSpec)) consolePrintsUptoCard

/-- THE SECOND FORM's CARD OF 'sennitlaw33.ConsoleBack'. -/
def consoleBackUptoCard : Claim7 := { stood := { row := consoleBackUptoRow, standIns := [], harness := (true, "453c435ff332c525757b9b79a564623bd9a9f0e185afacc358748a4b5738975d"), looks := false }, kinds := [], alts := [], laidByText := true, laidKinds := [.data, .data, .data, .data, .pinned], laidTests := true, laidLooks := .later }
def ConsoleBackUptoCardSaid : Prop := Claim7.holds Tryd.pinned (.plain (OpenSpec.upto consoleBackSpec)) consoleBackUptoCard
end Rows
end Go.Proofs.YtmidijokooidcaaDoor

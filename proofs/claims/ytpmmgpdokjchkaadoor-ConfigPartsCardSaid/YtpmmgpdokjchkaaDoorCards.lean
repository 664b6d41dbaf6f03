/-
  DERIVED. GIVEN WITH THE SEED: THE CARDS: each row of YtpmmgpdokjchkaaDoorRows.lean that lists a variable, with what it lists TIED to the program's text (the seventh form; the later family's looks); each row that meets fmt, with fmt's text TOLD by the authors' own Lean function (tested against real Go, not proved from fmt's source: count such statements apart). THE CARD IS WHAT COUNTS. Prove the row's statement (the work); the ties are given (YtpmmgpdokjchkaaDoorTie.lean); close each card by the builder's one call (the guide's Derived/Test/ToyasCard.lean, 'card_holds'). Laid BY PROGRAM, IN A SANDBOX (cutbox-door.mjs). By AI agents, Wed Nov 11 2026. No macro, syntax, notation, axiom, sorry.
-/
import Derived.Test.YtpmmgpdokjchkaaDoorRows
import GoSem.ClaimSeven
namespace Go.Proofs.YtpmmgpdokjchkaaDoor
namespace Rows

/-- THE TIED CARD OF 'sennitlaw35.ConfigPrints'. -/
def configPrintsCard : Claim7 := { stood := { row := configPrintsRow, standIns := [], harness := (true, "93aac59c90608ec77c645899522b449103bce1f324897db02c7c8713c802212f"), looks := false }, kinds := [], alts := [], laidByText := true, laidKinds := [.data, .data, .data, .data, .pinned], laidTests := true, laidLooks := .later }
def ConfigPrintsCardSaid : Prop := Claim7.holds Tryd.pinned (.plain (OpenSpec.ofChange configPrintsSpec)) configPrintsCard

/-- THE TIED CARD OF 'sennitlaw35.ConfigParts'. -/
def configPartsCard : Claim7 := { stood := { row := configPartsRow, standIns := [], harness := (true, "93aac59c90608ec77c645899522b449103bce1f324897db02c7c8713c802212f"), looks := false }, kinds := [], alts := [], laidByText := true, laidKinds := [.data, .data, .data, .data, .pinned], laidTests := true, laidLooks := .later }
def ConfigPartsCardSaid : Prop := Claim7.holds Tryd.pinned (.plain (OpenSpec.ofChange configPartsSpec)) configPartsCard

/-- THE TIED CARD OF 'sennitlaw35.ConfigSame'. -/
def configSameCard : Claim7 := { stood := { row := configSameRow, standIns := [], harness := (true, "93aac59c90608ec77c645899522b449103bce1f324897db02c7c8713c802212f"), looks := false }, kinds := [], alts := [], laidByText := true, laidKinds := [.data, .data, .data, .data, .pinned], laidTests := true, laidLooks := .later }
def ConfigSameCardSaid : Prop := Claim7.holds Tryd.pinned (.plain (OpenSpec.ofChange configSameSpec)) configSameCard

/-- THE SECOND FORM's CARD OF 'sennitlaw35.ConfigPrints'. -/
def configPrintsUptoCard : Claim7 := { stood := { row := configPrintsUptoRow, standIns := [], harness := (true, "93aac59c90608ec77c645899522b449103bce1f324897db02c7c8713c802212f"), looks := false }, kinds := [], alts := [], laidByText := true, laidKinds := [.data, .data, .data, .data, .pinned], laidTests := true, laidLooks := .later }
def ConfigPrintsUptoCardSaid : Prop := Claim7.holds Tryd.pinned (.plain (OpenSpec.upto configPrintsSpec)) configPrintsUptoCard

/-- THE SECOND FORM's CARD OF 'sennitlaw35.ConfigParts'. -/
def configPartsUptoCard : Claim7 := { stood := { row := configPartsUptoRow, standIns := [], harness := (true, "93aac59c90608ec77c645899522b449103bce1f324897db02c7c8713c802212f"), looks := false }, kinds := [], alts := [], laidByText := true, laidKinds := [.data, .data, .data, .data, .pinned], laidTests := true, laidLooks := .later }
def ConfigPartsUptoCardSaid : Prop := Claim7.holds Tryd.pinned (.plain (OpenSpec.upto configPartsSpec)) configPartsUptoCard

/-- THE SECOND FORM's CARD OF 'sennitlaw35.ConfigSame'. -/
def configSameUptoCard : Claim7 := { stood := { row := configSameUptoRow, standIns := [], harness := (true, "93aac59c90608ec77c645899522b449103bce1f324897db02c7c8713c802212f"), looks := false }, kinds := [], alts := [], laidByText := true, laidKinds := [.data, .data, .data, .data, .pinned], laidTests := true, laidLooks := .later }
def ConfigSameUptoCardSaid : Prop := Claim7.holds Tryd.pinned (.plain (OpenSpec.upto configSameSpec)) configSameUptoCard
end Rows
end Go.Proofs.YtpmmgpdokjchkaaDoor

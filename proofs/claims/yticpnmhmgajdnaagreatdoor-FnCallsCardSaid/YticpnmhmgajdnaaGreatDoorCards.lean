/-
  DERIVED. GIVEN WITH THE SEED: THE CARDS: each row of YticpnmhmgajdnaaGreatDoorRows.lean that lists a variable, with what it lists TIED to the program's text (the seventh form; the later family's looks); each row that meets fmt, with fmt's text TOLD by the authors' own Lean function (tested against real Go, not proved from fmt's source: count such statements apart). THE CARD IS WHAT COUNTS. Prove the row's statement (the work); the ties are given (YticpnmhmgajdnaaGreatDoorTie.lean); close each card by the builder's one call (the guide's Derived/Test/ToyasCard.lean, 'card_holds'). Laid BY PROGRAM, IN A SANDBOX (cutbox-door.mjs). By AI agents, Wed Nov 11 2026. No macro, syntax, notation, axiom, sorry.
-/
import Derived.Test.YticpnmhmgajdnaaGreatDoorRows
import GoSem.ClaimSeven
namespace Go.Proofs.YticpnmhmgajdnaaGreatDoor
namespace Rows

/-- THE TIED CARD OF 'laws.FnCalls'. -/
def fnCallsCard : Claim7 := { stood := { row := fnCallsRow, standIns := [], harness := (true, "1b7d6a6f629fd73e78cc74c271fdbacd25af5d6fdeb96614b14912d971b0d325"), looks := false }, kinds := [], alts := [], laidByText := true, laidKinds := [.data, .pinned], laidTests := true, laidLooks := .later }
def FnCallsCardSaid : Prop := Claim7.holds Tryz.pinned (.plain (OpenSpec.ofChange fnCallsSpec)) fnCallsCard

/-- THE TIED CARD OF 'laws.FnExactCallFiles'. -/
def fnExactCallFilesCard : Claim7 := { stood := { row := fnExactCallFilesRow, standIns := [], harness := (true, "1b7d6a6f629fd73e78cc74c271fdbacd25af5d6fdeb96614b14912d971b0d325"), looks := false }, kinds := [], alts := [], laidByText := true, laidKinds := [.data, .pinned], laidTests := true, laidLooks := .later }
def FnExactCallFilesCardSaid : Prop := Claim7.holds Tryz.pinned (.plain (OpenSpec.ofChange fnExactCallFilesSpec)) fnExactCallFilesCard

/-- THE SECOND FORM's CARD OF 'laws.FnCalls'. -/
def fnCallsUptoCard : Claim7 := { stood := { row := fnCallsUptoRow, standIns := [], harness := (true, "1b7d6a6f629fd73e78cc74c271fdbacd25af5d6fdeb96614b14912d971b0d325"), looks := false }, kinds := [], alts := [], laidByText := true, laidKinds := [.data, .pinned], laidTests := true, laidLooks := .later }
def FnCallsUptoCardSaid : Prop := Claim7.holds Tryz.pinned (.plain (OpenSpec.upto fnCallsSpec)) fnCallsUptoCard

/-- THE SECOND FORM's CARD OF 'laws.FnExactCallFiles'. -/
def fnExactCallFilesUptoCard : Claim7 := { stood := { row := fnExactCallFilesUptoRow, standIns := [], harness := (true, "1b7d6a6f629fd73e78cc74c271fdbacd25af5d6fdeb96614b14912d971b0d325"), looks := false }, kinds := [], alts := [], laidByText := true, laidKinds := [.data, .pinned], laidTests := true, laidLooks := .later }
def FnExactCallFilesUptoCardSaid : Prop := Claim7.holds Tryz.pinned (.plain (OpenSpec.upto fnExactCallFilesSpec)) fnExactCallFilesUptoCard
end Rows
end Go.Proofs.YticpnmhmgajdnaaGreatDoor

/-
  DERIVED. GIVEN WITH THE SEED: THE CARDS: each row of YtlndkggjgacclaaDoorRows.lean that lists a variable, with what it lists TIED to the program's text (the seventh form; the later family's looks); each row that meets fmt, with fmt's text TOLD by the authors' own Lean function (tested against real Go, not proved from fmt's source: count such statements apart). THE CARD IS WHAT COUNTS. Prove the row's statement (the work); the ties are given (YtlndkggjgacclaaDoorTie.lean); close each card by the builder's one call (the guide's Derived/Test/ToyasCard.lean, 'card_holds'). Laid BY PROGRAM, IN A SANDBOX (cutbox-door.mjs). By AI agents, Wed Nov 11 2026. No macro, syntax, notation, axiom, sorry.
-/
import Derived.Test.YtlndkggjgacclaaDoorRows
import GoSem.ClaimSeven
namespace Go.Proofs.YtlndkggjgacclaaDoor
namespace Rows

/-- THE TIED CARD OF 'laws.FnExactFilesText'. -/
def fnExactFilesTextCard : Claim7 := { stood := { row := fnExactFilesTextRow, standIns := [], harness := (true, "0137594f9be5d556239fb131889d84a3797876f75707157a3542f740207fa891"), looks := false }, kinds := [], alts := [], laidByText := true, laidKinds := [.data, .pinned], laidTests := true, laidLooks := .later }
def FnExactFilesTextCardSaid : Prop := Claim7.holds Tryd.pinned (.plain (OpenSpec.ofChange fnExactFilesTextSpec)) fnExactFilesTextCard

/-- THE TIED CARD OF 'laws.FnExactReadFiles'. -/
def fnExactReadFilesCard : Claim7 := { stood := { row := fnExactReadFilesRow, standIns := [], harness := (true, "0137594f9be5d556239fb131889d84a3797876f75707157a3542f740207fa891"), looks := false }, kinds := [], alts := [], laidByText := true, laidKinds := [.data, .pinned], laidTests := true, laidLooks := .later }
def FnExactReadFilesCardSaid : Prop := Claim7.holds Tryd.pinned (.plain (OpenSpec.ofChange fnExactReadFilesSpec)) fnExactReadFilesCard

/-- THE TIED CARD OF 'laws.FnText'. -/
def fnTextCard : Claim7 := { stood := { row := fnTextRow, standIns := [], harness := (true, "0137594f9be5d556239fb131889d84a3797876f75707157a3542f740207fa891"), looks := false }, kinds := [], alts := [], laidByText := true, laidKinds := [.data, .pinned], laidTests := true, laidLooks := .later }
def FnTextCardSaid : Prop := Claim7.holds Tryd.pinned (.plain (OpenSpec.ofChange fnTextSpec)) fnTextCard

/-- THE TIED CARD OF 'laws.FnFileBytes'. -/
def fnFileBytesCard : Claim7 := { stood := { row := fnFileBytesRow, standIns := [], harness := (true, "0137594f9be5d556239fb131889d84a3797876f75707157a3542f740207fa891"), looks := false }, kinds := [], alts := [], laidByText := true, laidKinds := [.data, .pinned], laidTests := true, laidLooks := .later }
def FnFileBytesCardSaid : Prop := Claim7.holds Tryd.pinned (.plain (OpenSpec.ofChange fnFileBytesSpec)) fnFileBytesCard

/-- THE SECOND FORM's CARD OF 'laws.FnExactFilesText'. -/
def fnExactFilesTextUptoCard : Claim7 := { stood := { row := fnExactFilesTextUptoRow, standIns := [], harness := (true, "0137594f9be5d556239fb131889d84a3797876f75707157a3542f740207fa891"), looks := false }, kinds := [], alts := [], laidByText := true, laidKinds := [.data, .pinned], laidTests := true, laidLooks := .later }
def FnExactFilesTextUptoCardSaid : Prop := Claim7.holds Tryd.pinned (.plain (OpenSpec.upto fnExactFilesTextSpec)) fnExactFilesTextUptoCard

/-- THE SECOND FORM's CARD OF 'laws.FnExactReadFiles'. -/
def fnExactReadFilesUptoCard : Claim7 := { stood := { row := fnExactReadFilesUptoRow, standIns := [], harness := (true, "0137594f9be5d556239fb131889d84a3797876f75707157a3542f740207fa891"), looks := false }, kinds := [], alts := [], laidByText := true, laidKinds := [.data, .pinned], laidTests := true, laidLooks := .later }
def FnExactReadFilesUptoCardSaid : Prop := Claim7.holds Tryd.pinned (.plain (OpenSpec.upto fnExactReadFilesSpec)) fnExactReadFilesUptoCard

/-- THE SECOND FORM's CARD OF 'laws.FnText'. -/
def fnTextUptoCard : Claim7 := { stood := { row := fnTextUptoRow, standIns := [], harness := (true, "0137594f9be5d556239fb131889d84a3797876f75707157a3542f740207fa891"), looks := false }, kinds := [], alts := [], laidByText := true, laidKinds := [.data, .pinned], laidTests := true, laidLooks := .later }
def FnTextUptoCardSaid : Prop := Claim7.holds Tryd.pinned (.plain (OpenSpec.upto fnTextSpec)) fnTextUptoCard

/-- THE SECOND FORM's CARD OF 'laws.FnFileBytes'. -/
def fnFileBytesUptoCard : Claim7 := { stood := { row := fnFileBytesUptoRow, standIns := [], harness := (true, "0137594f9be5d556239fb131889d84a3797876f75707157a3542f740207fa891"), looks := false }, kinds := [], alts := [], laidByText := true, laidKinds := [.data, .pinned], laidTests := true, laidLooks := .later }
def FnFileBytesUptoCardSaid : Prop := Claim7.holds Tryd.pinned (.plain (OpenSpec.upto fnFileBytesSpec)) fnFileBytesUptoCard
end Rows
end Go.Proofs.YtlndkggjgacclaaDoor

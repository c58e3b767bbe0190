/-
  DERIVED. GIVEN WITH THE SEED: THE CARDS: each row of YtpfeeobfhpmicaaGreatDoorRows.lean that lists a variable, with what it lists TIED to the program's text (the seventh form; the later family's looks); each row that meets fmt, with fmt's text TOLD by the authors' own Lean function (tested against real Go, not proved from fmt's source: count such statements apart). THE CARD IS WHAT COUNTS. Prove the row's statement (the work); the ties are given (YtpfeeobfhpmicaaGreatDoorTie.lean); close each card by the builder's one call (the guide's Derived/Test/ToyasCard.lean, 'card_holds'). Laid BY PROGRAM, IN A SANDBOX (cutbox-door.mjs). By AI agents, Wed Nov 11 2026. No macro, syntax, notation, axiom, sorry.
-/
import Derived.Test.YtpfeeobfhpmicaaGreatDoorRows
import GoSem.ClaimSeven
namespace Go.Proofs.YtpfeeobfhpmicaaGreatDoor
namespace Rows

/-- THE TIED CARD OF 'laws.FnExactEmptyRoot'. -/
def fnExactEmptyRootCard : Claim7 := { stood := { row := fnExactEmptyRootRow, standIns := [], harness := (true, "086819bb7c64e063a5758b65bf986c132b6fa569d5858e18cc1ce458743fd7f0"), looks := false }, kinds := [], alts := [], laidByText := true, laidKinds := [.data, .pinned], laidTests := true, laidLooks := .later }
def FnExactEmptyRootCardSaid : Prop := Claim7.holds Tryz.pinned (.plain (OpenSpec.ofChange fnExactEmptyRootSpec)) fnExactEmptyRootCard

/-- THE TIED CARD OF 'laws.FnExactFormatVolume'. -/
def fnExactFormatVolumeCard : Claim7 := { stood := { row := fnExactFormatVolumeRow, standIns := [], harness := (true, "086819bb7c64e063a5758b65bf986c132b6fa569d5858e18cc1ce458743fd7f0"), looks := false }, kinds := [], alts := [], laidByText := true, laidKinds := [.data, .pinned], laidTests := true, laidLooks := .later }
def FnExactFormatVolumeCardSaid : Prop := Claim7.holds Tryz.pinned (.plain (OpenSpec.ofChange fnExactFormatVolumeSpec)) fnExactFormatVolumeCard

/-- THE TIED CARD OF 'laws.FnFormat'. -/
def fnFormatCard : Claim7 := { stood := { row := fnFormatRow, standIns := [], harness := (true, "086819bb7c64e063a5758b65bf986c132b6fa569d5858e18cc1ce458743fd7f0"), looks := false }, kinds := [], alts := [], laidByText := true, laidKinds := [.data, .pinned], laidTests := true, laidLooks := .later }
def FnFormatCardSaid : Prop := Claim7.holds Tryz.pinned (.plain (OpenSpec.ofChange fnFormatSpec)) fnFormatCard

/-- THE TIED CARD OF 'laws.FnExactNewVolume'. -/
def fnExactNewVolumeCard : Claim7 := { stood := { row := fnExactNewVolumeRow, standIns := [], harness := (true, "086819bb7c64e063a5758b65bf986c132b6fa569d5858e18cc1ce458743fd7f0"), looks := false }, kinds := [], alts := [], laidByText := true, laidKinds := [.data, .pinned], laidTests := true, laidLooks := .later }
def FnExactNewVolumeCardSaid : Prop := Claim7.holds Tryz.pinned (.plain (OpenSpec.ofChange fnExactNewVolumeSpec)) fnExactNewVolumeCard

/-- THE SECOND FORM's CARD OF 'laws.FnExactEmptyRoot'. -/
def fnExactEmptyRootUptoCard : Claim7 := { stood := { row := fnExactEmptyRootUptoRow, standIns := [], harness := (true, "086819bb7c64e063a5758b65bf986c132b6fa569d5858e18cc1ce458743fd7f0"), looks := false }, kinds := [], alts := [], laidByText := true, laidKinds := [.data, .pinned], laidTests := true, laidLooks := .later }
def FnExactEmptyRootUptoCardSaid : Prop := Claim7.holds Tryz.pinned (.plain (OpenSpec.upto fnExactEmptyRootSpec)) fnExactEmptyRootUptoCard

/-- THE SECOND FORM's CARD OF 'laws.FnExactFormatVolume'. -/
def fnExactFormatVolumeUptoCard : Claim7 := { stood := { row := fnExactFormatVolumeUptoRow, standIns := [], harness := (true, "086819bb7c64e063a5758b65bf986c132b6fa569d5858e18cc1ce458743fd7f0"), looks := false }, kinds := [], alts := [], laidByText := true, laidKinds := [.data, .pinned], laidTests := true, laidLooks := .later }
def FnExactFormatVolumeUptoCardSaid : Prop := Claim7.holds Tryz.pinned (.plain (OpenSpec.upto fnExactFormatVolumeSpec)) fnExactFormatVolumeUptoCard

/-- THE SECOND FORM's CARD OF 'laws.FnFormat'. -/
def fnFormatUptoCard : Claim7 := { stood := { row := fnFormatUptoRow, standIns := [], harness := (true, "086819bb7c64e063a5758b65bf986c132b6fa569d5858e18cc1ce458743fd7f0"), looks := false }, kinds := [], alts := [], laidByText := true, laidKinds := [.data, .pinned], laidTests := true, laidLooks := .later }
def FnFormatUptoCardSaid : Prop := Claim7.holds Tryz.pinned (.plain (OpenSpec.upto fnFormatSpec)) fnFormatUptoCard

/-- THE SECOND FORM's CARD OF 'laws.FnExactNewVolume'. -/
def fnExactNewVolumeUptoCard : Claim7 := { stood := { row := fnExactNewVolumeUptoRow, standIns := [], harness := (true, "086819bb7c64e063a5758b65bf986c132b6fa569d5858e18cc1ce458743fd7f0"), looks := false }, kinds := [], alts := [], laidByText := true, laidKinds := [.data, .pinned], laidTests := true, laidLooks := .later }
def FnExactNewVolumeUptoCardSaid : Prop := Claim7.holds Tryz.pinned (.plain (OpenSpec.upto fnExactNewVolumeSpec)) fnExactNewVolumeUptoCard
end Rows
end Go.Proofs.YtpfeeobfhpmicaaGreatDoor

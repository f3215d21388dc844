/-
  DERIVED. GIVEN WITH THE SEED: THE CARDS: each row of YtdmcponfodohaaaGreatDoorRows.lean that lists a variable, with what it lists TIED to the program's text (the seventh form; the later family's looks); each row that meets fmt, with fmt's text TOLD by the authors' own Lean function (tested against real Go, not proved from fmt's source: count such statements apart). THE CARD IS WHAT COUNTS. Prove the row's statement (the work); the ties are given (YtdmcponfodohaaaGreatDoorTie.lean); close each card by the builder's one call (the guide's Derived/Test/ToyasCard.lean, 'card_holds'). Laid BY PROGRAM, IN A SANDBOX (cutbox-door.mjs). By AI agents, Wed Nov 11 2026. No macro, syntax, notation, axiom, sorry.
-/
import Derived.Test.YtdmcponfodohaaaGreatDoorRows
import GoSem.ClaimSeven
namespace Go.Proofs.YtdmcponfodohaaaGreatDoor
namespace Rows

/-- THE TIED CARD OF 'hostlerlaw14.KeepCorrupt'. -/
def keepCorruptCard : Claim7 := { stood := { row := keepCorruptRow, standIns := [], harness := (true, "b592875bec9cf13d23961f13c6f2573544c5d8c8d1c828b2007dbd7ad6eaf451"), looks := false }, kinds := [], alts := [], laidByText := true, laidKinds := [.data, .data, .data, .data, .pinned], laidTests := true, laidLooks := .later }
def KeepCorruptCardSaid : Prop := Claim7.holds Tryz.pinned (.plain (OpenSpec.ofChange keepCorruptSpec)) keepCorruptCard

/-- THE TIED CARD OF 'hostlerlaw14.KeepEpochs'. -/
def keepEpochsCard : Claim7 := { stood := { row := keepEpochsRow, standIns := [], harness := (true, "b592875bec9cf13d23961f13c6f2573544c5d8c8d1c828b2007dbd7ad6eaf451"), looks := false }, kinds := [], alts := [], laidByText := true, laidKinds := [.data, .data, .data, .data, .pinned], laidTests := true, laidLooks := .later }
def KeepEpochsCardSaid : Prop := Claim7.holds Tryz.pinned (.plain (OpenSpec.ofChange keepEpochsSpec)) keepEpochsCard

/-- THE TIED CARD OF 'hostlerlaw14.KeepOwn'. -/
def keepOwnCard : Claim7 := { stood := { row := keepOwnRow, standIns := [], harness := (true, "b592875bec9cf13d23961f13c6f2573544c5d8c8d1c828b2007dbd7ad6eaf451"), looks := false }, kinds := [], alts := [], laidByText := true, laidKinds := [.data, .data, .data, .data, .pinned], laidTests := true, laidLooks := .later }
def KeepOwnCardSaid : Prop := Claim7.holds Tryz.pinned (.plain (OpenSpec.ofChange keepOwnSpec)) keepOwnCard

/-- THE TIED CARD OF 'hostlerlaw14.KeepBytes'. -/
def keepBytesCard : Claim7 := { stood := { row := keepBytesRow, standIns := [], harness := (true, "b592875bec9cf13d23961f13c6f2573544c5d8c8d1c828b2007dbd7ad6eaf451"), looks := false }, kinds := [], alts := [], laidByText := true, laidKinds := [.data, .data, .data, .data, .pinned], laidTests := true, laidLooks := .later }
def KeepBytesCardSaid : Prop := Claim7.holds Tryz.pinned (.plain (OpenSpec.ofChange keepBytesSpec)) keepBytesCard

/-- THE TIED CARD OF 'hostlerlaw14.KeepErrors'. -/
def keepErrorsCard : Claim7 := { stood := { row := keepErrorsRow, standIns := [], harness := (true, "b592875bec9cf13d23961f13c6f2573544c5d8c8d1c828b2007dbd7ad6eaf451"), looks := false }, kinds := [], alts := [], laidByText := true, laidKinds := [.data, .data, .data, .data, .pinned], laidTests := true, laidLooks := .later }
def KeepErrorsCardSaid : Prop := Claim7.holds Tryz.pinned (.plain (OpenSpec.ofChange keepErrorsSpec)) keepErrorsCard

/-- THE SECOND FORM's CARD OF 'hostlerlaw14.KeepCorrupt'. -/
def keepCorruptUptoCard : Claim7 := { stood := { row := keepCorruptUptoRow, standIns := [], harness := (true, "b592875bec9cf13d23961f13c6f2573544c5d8c8d1c828b2007dbd7ad6eaf451"), looks := false }, kinds := [], alts := [], laidByText := true, laidKinds := [.data, .data, .data, .data, .pinned], laidTests := true, laidLooks := .later }
def KeepCorruptUptoCardSaid : Prop := Claim7.holds Tryz.pinned (.plain (OpenSpec.upto keepCorruptSpec)) keepCorruptUptoCard

/-- THE SECOND FORM's CARD OF 'hostlerlaw14.KeepEpochs'. -/
def keepEpochsUptoCard : Claim7 := { stood := { row := keepEpochsUptoRow, standIns := [], harness := (true, "b592875bec9cf13d23961f13c6f2573544c5d8c8d1c828b2007dbd7ad6eaf451"), looks := false }, kinds := [], alts := [], laidByText := true, laidKinds := [.data, .data, .data, .data, .pinned], laidTests := true, laidLooks := .later }
def KeepEpochsUptoCardSaid : Prop := Claim7.holds Tryz.pinned (.plain (OpenSpec.upto keepEpochsSpec)) keepEpochsUptoCard

/-- THE SECOND FORM's CARD OF 'hostlerlaw14.KeepOwn'. -/
def keepOwnUptoCard : Claim7 := { stood := { row := keepOwnUptoRow, standIns := [], harness := (true, "b592875bec9cf13d23961f13c6f2573544c5d8c8d1c828b2007dbd7ad6eaf451"), looks := false }, kinds := [], alts := [], laidByText := true, laidKinds := [.data, .data, .data, .data, .pinned], laidTests := true, laidLooks := .later }
def KeepOwnUptoCardSaid : Prop := Claim7.holds Tryz.pinned (.plain (OpenSpec.upto keepOwnSpec)) keepOwnUptoCard

/-- THE SECOND FORM's CARD OF 'hostlerlaw14.KeepBytes'. -/
def keepBytesUptoCard : Claim7 := { stood := { row := keepBytesUptoRow, standIns := [], harness := (true, "b592875bec9cf13d23961f13c6f2573544c5d8c8d1c828b2007dbd7ad6eaf451"), looks := false }, kinds := [], alts := [], laidByText := true, laidKinds := [.data, .data, .data, .data, .pinned], laidTests := true, laidLooks := .later }
def KeepBytesUptoCardSaid : Prop := Claim7.holds Tryz.pinned (.plain (OpenSpec.upto keepBytesSpec)) keepBytesUptoCard

/-- THE SECOND FORM's CARD OF 'hostlerlaw14.KeepErrors'. -/
def keepErrorsUptoCard : Claim7 := { stood := { row := keepErrorsUptoRow, standIns := [], harness := (true, "b592875bec9cf13d23961f13c6f2573544c5d8c8d1c828b2007dbd7ad6eaf451"), looks := false }, kinds := [], alts := [], laidByText := true, laidKinds := [.data, .data, .data, .data, .pinned], laidTests := true, laidLooks := .later }
def KeepErrorsUptoCardSaid : Prop := Claim7.holds Tryz.pinned (.plain (OpenSpec.upto keepErrorsSpec)) keepErrorsUptoCard
end Rows
end Go.Proofs.YtdmcponfodohaaaGreatDoor

/-
  DERIVED. GIVEN WITH THE SEED: THE CARDS: each row of YtkajgpdokbinlaaGreatDoorRows.lean that lists a variable, with what it lists TIED to the program's text (the seventh form; the later family's looks); each row that meets fmt, with fmt's text TOLD by the authors' own Lean function (tested against real Go, not proved from fmt's source: count such statements apart). THE CARD IS WHAT COUNTS. Prove the row's statement (the work); the ties are given (YtkajgpdokbinlaaGreatDoorTie.lean); close each card by the builder's one call (the guide's Derived/Test/ToyasCard.lean, 'card_holds'). Laid BY PROGRAM, IN A SANDBOX (cutbox-door.mjs). By AI agents, Wed Nov 11 2026. No macro, syntax, notation, axiom, sorry.
-/
import Derived.Test.YtkajgpdokbinlaaGreatDoorRows
import GoSem.ClaimSeven
namespace Go.Proofs.YtkajgpdokbinlaaGreatDoor
namespace Rows

/-- THE TIED CARD OF 'ratchetlaw26.RetimePeriods'. -/
def retimePeriodsCard : Claim7 := { stood := { row := retimePeriodsRow, standIns := [], harness := (true, "bbc208e9bed2a0561f9e9c99a766253c214e08f2835ccb50745846a6e459ddd1"), looks := false }, kinds := [], alts := [], laidByText := true, laidKinds := [.data, .data, .data], laidTests := true, laidLooks := .later }
def RetimePeriodsCardSaid : Prop := Claim7.holds Tryz.pinned (.plain (OpenSpec.ofChange retimePeriodsSpec)) retimePeriodsCard

/-- THE TIED CARD OF 'ratchetlaw26.RetimeJoined'. -/
def retimeJoinedCard : Claim7 := { stood := { row := retimeJoinedRow, standIns := [], harness := (true, "bbc208e9bed2a0561f9e9c99a766253c214e08f2835ccb50745846a6e459ddd1"), looks := false }, kinds := [], alts := [], laidByText := true, laidKinds := [.data, .data, .data], laidTests := true, laidLooks := .later }
def RetimeJoinedCardSaid : Prop := Claim7.holds Tryz.pinned (.plain (OpenSpec.ofChange retimeJoinedSpec)) retimeJoinedCard

/-- THE TIED CARD OF 'ratchetlaw26.RetimeFaster'. -/
def retimeFasterCard : Claim7 := { stood := { row := retimeFasterRow, standIns := [], harness := (true, "bbc208e9bed2a0561f9e9c99a766253c214e08f2835ccb50745846a6e459ddd1"), looks := false }, kinds := [], alts := [], laidByText := true, laidKinds := [.data, .data, .data], laidTests := true, laidLooks := .later }
def RetimeFasterCardSaid : Prop := Claim7.holds Tryz.pinned (.plain (OpenSpec.ofChange retimeFasterSpec)) retimeFasterCard

/-- THE TIED CARD OF 'ratchetlaw26.RetimeLists'. -/
def retimeListsCard : Claim7 := { stood := { row := retimeListsRow, standIns := [], harness := (true, "bbc208e9bed2a0561f9e9c99a766253c214e08f2835ccb50745846a6e459ddd1"), looks := false }, kinds := [], alts := [], laidByText := true, laidKinds := [.data, .data, .data], laidTests := true, laidLooks := .later }
def RetimeListsCardSaid : Prop := Claim7.holds Tryz.pinned (.plain (OpenSpec.ofChange retimeListsSpec)) retimeListsCard

/-- THE TIED CARD OF 'ratchetlaw26.RetimeSame'. -/
def retimeSameCard : Claim7 := { stood := { row := retimeSameRow, standIns := [], harness := (true, "bbc208e9bed2a0561f9e9c99a766253c214e08f2835ccb50745846a6e459ddd1"), looks := false }, kinds := [], alts := [], laidByText := true, laidKinds := [.data, .data, .data], laidTests := true, laidLooks := .later }
def RetimeSameCardSaid : Prop := Claim7.holds Tryz.pinned (.plain (OpenSpec.ofChange retimeSameSpec)) retimeSameCard

/-- THE SECOND FORM's CARD OF 'ratchetlaw26.RetimePeriods'. -/
def retimePeriodsUptoCard : Claim7 := { stood := { row := retimePeriodsUptoRow, standIns := [], harness := (true, "bbc208e9bed2a0561f9e9c99a766253c214e08f2835ccb50745846a6e459ddd1"), looks := false }, kinds := [], alts := [], laidByText := true, laidKinds := [.data, .data, .data], laidTests := true, laidLooks := .later }
def RetimePeriodsUptoCardSaid : Prop := Claim7.holds Tryz.pinned (.plain (OpenSpec.upto retimePeriodsSpec)) retimePeriodsUptoCard

/-- THE SECOND FORM's CARD OF 'ratchetlaw26.RetimeJoined'. -/
def retimeJoinedUptoCard : Claim7 := { stood := { row := retimeJoinedUptoRow, standIns := [], harness := (true, "bbc208e9bed2a0561f9e9c99a766253c214e08f2835ccb50745846a6e459ddd1"), looks := false }, kinds := [], alts := [], laidByText := true, laidKinds := [.data, .data, .data], laidTests := true, laidLooks := .later }
def RetimeJoinedUptoCardSaid : Prop := Claim7.holds Tryz.pinned (.plain (OpenSpec.upto retimeJoinedSpec)) retimeJoinedUptoCard

/-- THE SECOND FORM's CARD OF 'ratchetlaw26.RetimeFaster'. -/
def retimeFasterUptoCard : Claim7 := { stood := { row := retimeFasterUptoRow, standIns := [], harness := (true, "bbc208e9bed2a0561f9e9c99a766253c214e08f2835ccb50745846a6e459ddd1"), looks := false }, kinds := [], alts := [], laidByText := true, laidKinds := [.data, .data, .data], laidTests := true, laidLooks := .later }
def RetimeFasterUptoCardSaid : Prop := Claim7.holds Tryz.pinned (.plain (OpenSpec.upto retimeFasterSpec)) retimeFasterUptoCard

/-- THE SECOND FORM's CARD OF 'ratchetlaw26.RetimeLists'. -/
def retimeListsUptoCard : Claim7 := { stood := { row := retimeListsUptoRow, standIns := [], harness := (true, "bbc208e9bed2a0561f9e9c99a766253c214e08f2835ccb50745846a6e459ddd1"), looks := false }, kinds := [], alts := [], laidByText := true, laidKinds := [.data, .data, .data], laidTests := true, laidLooks := .later }
def RetimeListsUptoCardSaid : Prop := Claim7.holds Tryz.pinned (.plain (OpenSpec.upto retimeListsSpec)) retimeListsUptoCard

/-- THE SECOND FORM's CARD OF 'ratchetlaw26.RetimeSame'. -/
def retimeSameUptoCard : Claim7 := { stood := { row := retimeSameUptoRow, standIns := [], harness := (true, "bbc208e9bed2a0561f9e9c99a766253c214e08f2835ccb50745846a6e459ddd1"), looks := false }, kinds := [], alts := [], laidByText := true, laidKinds := [.data, .data, .data], laidTests := true, laidLooks := .later }
def RetimeSameUptoCardSaid : Prop := Claim7.holds Tryz.pinned (.plain (OpenSpec.upto retimeSameSpec)) retimeSameUptoCard
end Rows
end Go.Proofs.YtkajgpdokbinlaaGreatDoor

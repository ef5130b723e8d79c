/-
  DERIVED. GIVEN WITH THE SEED: THE CARDS: each row of YtjjfdkdneibjbaaGreatDoorRows.lean that lists a variable, with what it lists TIED to the program's text (the seventh form; the later family's looks); each row that meets fmt, with fmt's text TOLD by the authors' own Lean function (tested against real Go, not proved from fmt's source: count such statements apart). THE CARD IS WHAT COUNTS. Prove the row's statement (the work); the ties are given (YtjjfdkdneibjbaaGreatDoorTie.lean); close each card by the builder's one call (the guide's Derived/Test/ToyasCard.lean, 'card_holds'). Laid BY PROGRAM, IN A SANDBOX (cutbox-door.mjs). By AI agents, Wed Nov 11 2026. No macro, syntax, notation, axiom, sorry.
-/
import Derived.Test.YtjjfdkdneibjbaaGreatDoorRows
import GoSem.ClaimSeven
namespace Go.Proofs.YtjjfdkdneibjbaaGreatDoor
namespace Rows

/-- THE TIED CARD OF 'emulsionlaw20.JobWrites'. -/
def jobWritesCard : Claim7 := { stood := { row := jobWritesRow, standIns := [], harness := (true, "13bc3100c03eab2c3560e47654d9df1739e524d18c895cb8d4d883981c475262"), looks := true }, kinds := [], alts := [], laidByText := true, laidKinds := [.data, .pinned], laidTests := true, laidLooks := .later }
def JobWritesCardSaid : Prop := Claim7.holds Tryz.pinned (.plain (OpenSpec.ofChange jobWritesSpec)) jobWritesCard

/-- THE TIED CARD OF 'emulsionlaw20.JobAlike'. -/
def jobAlikeCard : Claim7 := { stood := { row := jobAlikeRow, standIns := [], harness := (true, "13bc3100c03eab2c3560e47654d9df1739e524d18c895cb8d4d883981c475262"), looks := true }, kinds := [], alts := [], laidByText := true, laidKinds := [.data, .pinned], laidTests := true, laidLooks := .later }
def JobAlikeCardSaid : Prop := Claim7.holds Tryz.pinned (.plain (OpenSpec.ofChange jobAlikeSpec)) jobAlikeCard

/-- THE TIED CARD OF 'emulsionlaw20.JobSteps'. -/
def jobStepsCard : Claim7 := { stood := { row := jobStepsRow, standIns := [], harness := (true, "13bc3100c03eab2c3560e47654d9df1739e524d18c895cb8d4d883981c475262"), looks := true }, kinds := [], alts := [], laidByText := true, laidKinds := [.data, .pinned], laidTests := true, laidLooks := .later }
def JobStepsCardSaid : Prop := Claim7.holds Tryz.pinned (.plain (OpenSpec.ofChange jobStepsSpec)) jobStepsCard

/-- THE TIED CARD OF 'emulsionlaw20.JobPlays'. -/
def jobPlaysCard : Claim7 := { stood := { row := jobPlaysRow, standIns := [], harness := (true, "13bc3100c03eab2c3560e47654d9df1739e524d18c895cb8d4d883981c475262"), looks := true }, kinds := [], alts := [], laidByText := true, laidKinds := [.data, .pinned], laidTests := true, laidLooks := .later }
def JobPlaysCardSaid : Prop := Claim7.holds Tryz.pinned (.plain (OpenSpec.ofChange jobPlaysSpec)) jobPlaysCard

/-- THE SECOND FORM's CARD OF 'emulsionlaw20.JobWrites'. -/
def jobWritesUptoCard : Claim7 := { stood := { row := jobWritesUptoRow, standIns := [], harness := (true, "13bc3100c03eab2c3560e47654d9df1739e524d18c895cb8d4d883981c475262"), looks := true }, kinds := [], alts := [], laidByText := true, laidKinds := [.data, .pinned], laidTests := true, laidLooks := .later }
def JobWritesUptoCardSaid : Prop := Claim7.holds Tryz.pinned (.plain (OpenSpec.upto jobWritesSpec)) jobWritesUptoCard

/-- THE SECOND FORM's CARD OF 'emulsionlaw20.JobAlike'. -/
def jobAlikeUptoCard : Claim7 := { stood := { row := jobAlikeUptoRow, standIns := [], harness := (true, "13bc3100c03eab2c3560e47654d9df1739e524d18c895cb8d4d883981c475262"), looks := true }, kinds := [], alts := [], laidByText := true, laidKinds := [.data, .pinned], laidTests := true, laidLooks := .later }
def JobAlikeUptoCardSaid : Prop := Claim7.holds Tryz.pinned (.plain (OpenSpec.upto jobAlikeSpec)) jobAlikeUptoCard

/-- THE SECOND FORM's CARD OF 'emulsionlaw20.JobSteps'. -/
def jobStepsUptoCard : Claim7 := { stood := { row := jobStepsUptoRow, standIns := [], harness := (true, "13bc3100c03eab2c3560e47654d9df1739e524d18c895cb8d4d883981c475262"), looks := true }, kinds := [], alts := [], laidByText := true, laidKinds := [.data, .pinned], laidTests := true, laidLooks := .later }
def JobStepsUptoCardSaid : Prop := Claim7.holds Tryz.pinned (.plain (OpenSpec.upto jobStepsSpec)) jobStepsUptoCard

/-- THE SECOND FORM's CARD OF 'emulsionlaw20.JobPlays'. -/
def jobPlaysUptoCard : Claim7 := { stood := { row := jobPlaysUptoRow, standIns := [], harness := (true, "13bc3100c03eab2c3560e47654d9df1739e524d18c895cb8d4d883981c475262"), looks := true }, kinds := [], alts := [], laidByText := true, laidKinds := [.data, .pinned], laidTests := true, laidLooks := .later }
def JobPlaysUptoCardSaid : Prop := Claim7.holds Tryz.pinned (.plain (OpenSpec.upto jobPlaysSpec)) jobPlaysUptoCard
end Rows
end Go.Proofs.YtjjfdkdneibjbaaGreatDoor

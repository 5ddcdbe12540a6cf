/-
  DERIVED. GIVEN WITH THE SEED: THE CARDS: each row of YtolebnomgllgaaaGreatDoorRows.lean that lists a variable, with what it lists TIED to the program's text (the seventh form; the later family's looks); each row that meets fmt, with fmt's text TOLD by the authors' own Lean function (tested against real Go, not proved from fmt's source: count such statements apart). THE CARD IS WHAT COUNTS. Prove the row's statement (the work); the ties are given (YtolebnomgllgaaaGreatDoorTie.lean); close each card by the builder's one call (the guide's Derived/Test/ToyasCard.lean, 'card_holds'). Laid BY PROGRAM, IN A SANDBOX (cutbox-door.mjs). By AI agents, Wed Nov 11 2026. No macro, syntax, notation, axiom, sorry.
-/
import Derived.Test.YtolebnomgllgaaaGreatDoorRows
import GoSem.ClaimSeven
namespace Go.Proofs.YtolebnomgllgaaaGreatDoor
namespace Rows

/-- THE TIED CARD OF 'cupellaw03.SemOperates'. -/
def semOperatesCard : Claim7 := { stood := { row := semOperatesRow, standIns := [], harness := (true, "a6d93bb8c9e01336e2f6505376c796ab2a96dd497432187cac32f7916423d991"), looks := true }, kinds := [], alts := [], laidByText := true, laidKinds := [.widerDeep, .data, .data, .data, .data], laidTests := true, laidLooks := .later }
def SemOperatesCardSaid : Prop := Claim7.holds Tryz.pinned (.plain (OpenSpec.ofChange semOperatesSpec)) semOperatesCard

/-- THE TIED CARD OF 'cupellaw03.SemAgrees'. -/
def semAgreesCard : Claim7 := { stood := { row := semAgreesRow, standIns := [], harness := (true, "a6d93bb8c9e01336e2f6505376c796ab2a96dd497432187cac32f7916423d991"), looks := true }, kinds := [], alts := [], laidByText := true, laidKinds := [.widerDeep, .data, .data, .data, .data], laidTests := true, laidLooks := .later }
def SemAgreesCardSaid : Prop := Claim7.holds Tryz.pinned (.plain (OpenSpec.ofChange semAgreesSpec)) semAgreesCard

/-- THE TIED CARD OF 'cupellaw06.GenNumbers'. -/
def genNumbersCard : Claim7 := { stood := { row := genNumbersRow, standIns := [], harness := (true, "a6d93bb8c9e01336e2f6505376c796ab2a96dd497432187cac32f7916423d991"), looks := true }, kinds := [], alts := [], laidByText := true, laidKinds := [.data, .data, .data, .data, .data, .widerDeep, .widerDeep, .data, .widerDeep, .data, .data, .data, .data, .data, .data], laidTests := true, laidLooks := .later }
def GenNumbersCardSaid : Prop := Claim7.holds Tryz.pinned (.plain (OpenSpec.ofChange genNumbersSpec)) genNumbersCard

/-- THE SECOND FORM's CARD OF 'cupellaw03.SemOperates'. -/
def semOperatesUptoCard : Claim7 := { stood := { row := semOperatesUptoRow, standIns := [], harness := (true, "a6d93bb8c9e01336e2f6505376c796ab2a96dd497432187cac32f7916423d991"), looks := true }, kinds := [], alts := [], laidByText := true, laidKinds := [.widerDeep, .data, .data, .data, .data], laidTests := true, laidLooks := .later }
def SemOperatesUptoCardSaid : Prop := Claim7.holds Tryz.pinned (.plain (OpenSpec.upto semOperatesSpec)) semOperatesUptoCard

/-- THE SECOND FORM's CARD OF 'cupellaw03.SemAgrees'. -/
def semAgreesUptoCard : Claim7 := { stood := { row := semAgreesUptoRow, standIns := [], harness := (true, "a6d93bb8c9e01336e2f6505376c796ab2a96dd497432187cac32f7916423d991"), looks := true }, kinds := [], alts := [], laidByText := true, laidKinds := [.widerDeep, .data, .data, .data, .data], laidTests := true, laidLooks := .later }
def SemAgreesUptoCardSaid : Prop := Claim7.holds Tryz.pinned (.plain (OpenSpec.upto semAgreesSpec)) semAgreesUptoCard

/-- THE SECOND FORM's CARD OF 'cupellaw06.GenNumbers'. -/
def genNumbersUptoCard : Claim7 := { stood := { row := genNumbersUptoRow, standIns := [], harness := (true, "a6d93bb8c9e01336e2f6505376c796ab2a96dd497432187cac32f7916423d991"), looks := true }, kinds := [], alts := [], laidByText := true, laidKinds := [.data, .data, .data, .data, .data, .widerDeep, .widerDeep, .data, .widerDeep, .data, .data, .data, .data, .data, .data], laidTests := true, laidLooks := .later }
def GenNumbersUptoCardSaid : Prop := Claim7.holds Tryz.pinned (.plain (OpenSpec.upto genNumbersSpec)) genNumbersUptoCard
end Rows
end Go.Proofs.YtolebnomgllgaaaGreatDoor

/-
  DERIVED. GIVEN WITH THE SEED: THE CARDS: each row of YtncaejnkpmmoeaaDoorRows.lean that lists a variable, with what it lists TIED to the program's text (the seventh form; the later family's looks); each row that meets fmt, with fmt's text TOLD by the authors' own Lean function (tested against real Go, not proved from fmt's source: count such statements apart). THE CARD IS WHAT COUNTS. Prove the row's statement (the work); the ties are given (YtncaejnkpmmoeaaDoorTie.lean); close each card by the builder's one call (the guide's Derived/Test/ToyasCard.lean, 'card_holds'). Laid BY PROGRAM, IN A SANDBOX (cutbox-door.mjs). By AI agents, Wed Nov 11 2026. No macro, syntax, notation, axiom, sorry.
-/
import Derived.Test.YtncaejnkpmmoeaaDoorRows
import GoSem.ClaimSeven
namespace Go.Proofs.YtncaejnkpmmoeaaDoor
namespace Rows

/-- THE TIED CARD OF 'cupellaw04.RangesAssume'. -/
def rangesAssumeCard : Claim7 := { stood := { row := rangesAssumeRow, standIns := [], harness := (true, "de87536829a3227c3e4862b1786049b911f607e593883a4a1c4be2254a7eb771"), looks := false }, kinds := [], alts := [], laidByText := true, laidKinds := [.data, .data], laidTests := true, laidLooks := .later }
def RangesAssumeCardSaid : Prop := Claim7.holds Tryd.pinned (.plain (OpenSpec.ofChange rangesAssumeSpec)) rangesAssumeCard

/-- THE TIED CARD OF 'cupellaw04.RangesLeft'. -/
def rangesLeftCard : Claim7 := { stood := { row := rangesLeftRow, standIns := [], harness := (true, "de87536829a3227c3e4862b1786049b911f607e593883a4a1c4be2254a7eb771"), looks := false }, kinds := [], alts := [], laidByText := true, laidKinds := [.data, .data], laidTests := true, laidLooks := .later }
def RangesLeftCardSaid : Prop := Claim7.holds Tryd.pinned (.plain (OpenSpec.ofChange rangesLeftSpec)) rangesLeftCard

/-- THE TIED CARD OF 'cupellaw04.RangesContain'. -/
def rangesContainCard : Claim7 := { stood := { row := rangesContainRow, standIns := [], harness := (true, "de87536829a3227c3e4862b1786049b911f607e593883a4a1c4be2254a7eb771"), looks := false }, kinds := [], alts := [], laidByText := true, laidKinds := [.data, .data], laidTests := true, laidLooks := .later }
def RangesContainCardSaid : Prop := Claim7.holds Tryd.pinned (.plain (OpenSpec.ofChange rangesContainSpec)) rangesContainCard

/-- THE TIED CARD OF 'cupellaw04.RangesTight'. -/
def rangesTightCard : Claim7 := { stood := { row := rangesTightRow, standIns := [], harness := (true, "de87536829a3227c3e4862b1786049b911f607e593883a4a1c4be2254a7eb771"), looks := false }, kinds := [], alts := [], laidByText := true, laidKinds := [.data, .data], laidTests := true, laidLooks := .later }
def RangesTightCardSaid : Prop := Claim7.holds Tryd.pinned (.plain (OpenSpec.ofChange rangesTightSpec)) rangesTightCard

/-- THE TIED CARD OF 'cupellaw04.RangesSets'. -/
def rangesSetsCard : Claim7 := { stood := { row := rangesSetsRow, standIns := [], harness := (true, "de87536829a3227c3e4862b1786049b911f607e593883a4a1c4be2254a7eb771"), looks := false }, kinds := [], alts := [], laidByText := true, laidKinds := [.data, .data], laidTests := true, laidLooks := .later }
def RangesSetsCardSaid : Prop := Claim7.holds Tryd.pinned (.plain (OpenSpec.ofChange rangesSetsSpec)) rangesSetsCard

/-- THE TIED CARD OF 'cupellaw04.RangesOperators'. -/
def rangesOperatorsCard : Claim7 := { stood := { row := rangesOperatorsRow, standIns := [], harness := (true, "de87536829a3227c3e4862b1786049b911f607e593883a4a1c4be2254a7eb771"), looks := false }, kinds := [], alts := [], laidByText := true, laidKinds := [.data, .data], laidTests := true, laidLooks := .later }
def RangesOperatorsCardSaid : Prop := Claim7.holds Tryd.pinned (.plain (OpenSpec.ofChange rangesOperatorsSpec)) rangesOperatorsCard

/-- THE TIED CARD OF 'cupellaw04.RangesUnary'. -/
def rangesUnaryCard : Claim7 := { stood := { row := rangesUnaryRow, standIns := [], harness := (true, "de87536829a3227c3e4862b1786049b911f607e593883a4a1c4be2254a7eb771"), looks := false }, kinds := [], alts := [], laidByText := true, laidKinds := [.data, .data], laidTests := true, laidLooks := .later }
def RangesUnaryCardSaid : Prop := Claim7.holds Tryd.pinned (.plain (OpenSpec.ofChange rangesUnarySpec)) rangesUnaryCard

/-- THE SECOND FORM's CARD OF 'cupellaw04.RangesAssume'. -/
def rangesAssumeUptoCard : Claim7 := { stood := { row := rangesAssumeUptoRow, standIns := [], harness := (true, "de87536829a3227c3e4862b1786049b911f607e593883a4a1c4be2254a7eb771"), looks := false }, kinds := [], alts := [], laidByText := true, laidKinds := [.data, .data], laidTests := true, laidLooks := .later }
def RangesAssumeUptoCardSaid : Prop := Claim7.holds Tryd.pinned (.plain (OpenSpec.upto rangesAssumeSpec)) rangesAssumeUptoCard

/-- THE SECOND FORM's CARD OF 'cupellaw04.RangesLeft'. -/
def rangesLeftUptoCard : Claim7 := { stood := { row := rangesLeftUptoRow, standIns := [], harness := (true, "de87536829a3227c3e4862b1786049b911f607e593883a4a1c4be2254a7eb771"), looks := false }, kinds := [], alts := [], laidByText := true, laidKinds := [.data, .data], laidTests := true, laidLooks := .later }
def RangesLeftUptoCardSaid : Prop := Claim7.holds Tryd.pinned (.plain (OpenSpec.upto rangesLeftSpec)) rangesLeftUptoCard

/-- THE SECOND FORM's CARD OF 'cupellaw04.RangesContain'. -/
def rangesContainUptoCard : Claim7 := { stood := { row := rangesContainUptoRow, standIns := [], harness := (true, "de87536829a3227c3e4862b1786049b911f607e593883a4a1c4be2254a7eb771"), looks := false }, kinds := [], alts := [], laidByText := true, laidKinds := [.data, .data], laidTests := true, laidLooks := .later }
def RangesContainUptoCardSaid : Prop := Claim7.holds Tryd.pinned (.plain (OpenSpec.upto rangesContainSpec)) rangesContainUptoCard

/-- THE SECOND FORM's CARD OF 'cupellaw04.RangesTight'. -/
def rangesTightUptoCard : Claim7 := { stood := { row := rangesTightUptoRow, standIns := [], harness := (true, "de87536829a3227c3e4862b1786049b911f607e593883a4a1c4be2254a7eb771"), looks := false }, kinds := [], alts := [], laidByText := true, laidKinds := [.data, .data], laidTests := true, laidLooks := .later }
def RangesTightUptoCardSaid : Prop := Claim7.holds Tryd.pinned (.plain (OpenSpec.upto rangesTightSpec)) rangesTightUptoCard

/-- THE SECOND FORM's CARD OF 'cupellaw04.RangesSets'. -/
def rangesSetsUptoCard : Claim7 := { stood := { row := rangesSetsUptoRow, standIns := [], harness := (true, "de87536829a3227c3e4862b1786049b911f607e593883a4a1c4be2254a7eb771"), looks := false }, kinds := [], alts := [], laidByText := true, laidKinds := [.data, .data], laidTests := true, laidLooks := .later }
def RangesSetsUptoCardSaid : Prop := Claim7.holds Tryd.pinned (.plain (OpenSpec.upto rangesSetsSpec)) rangesSetsUptoCard

/-- THE SECOND FORM's CARD OF 'cupellaw04.RangesOperators'. -/
def rangesOperatorsUptoCard : Claim7 := { stood := { row := rangesOperatorsUptoRow, standIns := [], harness := (true, "de87536829a3227c3e4862b1786049b911f607e593883a4a1c4be2254a7eb771"), looks := false }, kinds := [], alts := [], laidByText := true, laidKinds := [.data, .data], laidTests := true, laidLooks := .later }
def RangesOperatorsUptoCardSaid : Prop := Claim7.holds Tryd.pinned (.plain (OpenSpec.upto rangesOperatorsSpec)) rangesOperatorsUptoCard

/-- THE SECOND FORM's CARD OF 'cupellaw04.RangesUnary'. -/
def rangesUnaryUptoCard : Claim7 := { stood := { row := rangesUnaryUptoRow, standIns := [], harness := (true, "de87536829a3227c3e4862b1786049b911f607e593883a4a1c4be2254a7eb771"), looks := false }, kinds := [], alts := [], laidByText := true, laidKinds := [.data, .data], laidTests := true, laidLooks := .later }
def RangesUnaryUptoCardSaid : Prop := Claim7.holds Tryd.pinned (.plain (OpenSpec.upto rangesUnarySpec)) rangesUnaryUptoCard
end Rows
end Go.Proofs.YtncaejnkpmmoeaaDoor

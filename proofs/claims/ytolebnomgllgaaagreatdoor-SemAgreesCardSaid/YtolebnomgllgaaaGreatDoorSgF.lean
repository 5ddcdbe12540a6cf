/- SEM: what the rows of this seat have in common. -/
import Derived.Test.YtolebnomgllgaaaGreatDoorSgA
import Derived.Test.YtolebnomgllgaaaGreatDoorSyU
import Derived.Test.YtolebnomgllgaaaGreatDoorCards
import Derived.Test.YtolebnomgllgaaaGreatDoorTie
import Derived.ProofKit
import Derived.JoinedOf
import Derived.SevenTiedAt
import Derived.Stop.Joined
import Derived.ChangeVars
set_option linter.unusedVariables false
namespace Go.SYG
open Go Go.SY Go.Proofs Go.RowKit Go.ChangeShapes Go.Proofs.YtolebnomgllgaaaGreatDoor Go.ChangeAt
noncomputable section
theorem own : ownKnob Tryz.prog.godebug = none := by kernel_rfl
theorem kids : Kids Tryz.prog (· < Tryz.prog.types.size) := kids_rows (by kernel_rfl) (by kernel_rfl)
theorem full : ∀ t e, t < Tryz.prog.types.size → Tryz.prog.underlying t = some (.slice e) → 0 < Tryz.prog.cellsOf e := slices_full_of _ (by kernel_rfl)
def wordsL : List (List UInt8) := [[103, 108, 111, 98, 97, 108], [102, 117, 110, 99], [108, 101, 116], [105, 102], [101, 108, 115, 101], [119, 104, 105, 108, 101], [117, 112, 116, 111], [102, 111, 114], [105, 110], [98, 114, 101, 97, 107], [99, 111, 110, 116, 105, 110, 117, 101], [114, 101, 116, 117, 114, 110], [112, 114, 105, 110, 116], [116, 114, 97, 112], [105, 110, 116], [115, 109, 97, 108, 108], [98, 111, 111, 108], [116, 114, 117, 101], [102, 97, 108, 115, 101]]
def shapesL : List Value := [.bool false, .bool false, .bool false, .int .i64 0, .int .i64 0, .bool true, .bool false, .bool false, .int .i64 0, .int .i64 1, .bool true, .bool false, .bool false, .int .i64 1, .int .i64 1, .bool true, .bool false, .bool false, .int .i64 2, .int .i64 2, .bool false, .bool false, .bool false, .int .i64 1, .int .i64 1, .bool false, .bool false, .bool false, .int .i64 1, .int .i64 1, .bool false, .bool false, .bool false, .int .i64 0, .int .i64 0, .bool false, .bool true, .bool true, .int .i64 1, .int .i64 1, .bool false, .bool true, .bool false, .int .i64 1, .int .i64 1, .bool true, .bool true, .bool false, .int .i64 2, .int .i64 2, .bool false, .bool false, .bool false, .int .i64 0, .int .i64 0, .bool false, .bool false, .bool false, .int .i64 0, .int .i64 0, .bool false, .bool false, .bool false, .int .i64 0, .int .i64 1]
noncomputable def laidWorld (os : Os) : World :=
  let w0 := World.holding Tryz.prog os ⟨#[], #[], []⟩
  { w0 with heap := (((((w0.heap.modify 1 fun
      | .cells _ t frozen => .cells shapesL.toArray t frozen
      | o => o).modify 2 fun
      | .cells _ t frozen => .cells #[.int .i64 1, .int .i64 0] t frozen
      | o => o).modify 3 fun
      | .cells _ t frozen => .cells #[.int .i64 2, .int .i64 0] t frozen
      | o => o).modify 4 fun
      | .cells _ t frozen => .cells #[.int .i64 3, .int .i64 0] t frozen
      | o => o).modify 5 fun
      | .cells _ t frozen => .cells #[.slice (some ⟨w0.heap.size, 0, none⟩) 19 19] t frozen
      | o => o).push (.cells (wordsL.map fun l => Value.string ⟨l.toArray⟩).toArray 9 (0, 0)) }
theorem laidWorld_met (os : Os) (args : Array Value) : laidMetH Tryz.prog laidL ((laidWorld os).forCall (fun _ _ => 0) ⟨#[], args, []⟩).memory :=
  show laidMet Tryz.prog laidL _ from laidMet_of_run' 8 (by kernel_rfl) (by kernel_rfl)
theorem len1 {α : Type} {l : List α} (h : l.length = 1) : ∃ a, l = [a] := by
  match l, h with
  | [a], _ => exact ⟨a, rfl⟩
theorem len2 {α : Type} {l : List α} (h : l.length = 2) : ∃ a b, l = [a, b] := by
  match l, h with
  | [a, b], _ => exact ⟨a, b, rfl⟩
end
end Go.SYG
set_option linter.unusedVariables false
namespace Go.SYG
open Go Go.SY Go.Proofs Go.RowKit Go.ChangeShapes Go.Proofs.YtolebnomgllgaaaGreatDoor
noncomputable section
theorem and_t {a b : Bool} (ha : a = true) (hb : b = true) : (a && b) = true := by rw [ha, hb]; rfl
theorem ja0 : (Rows.semAgreesRow.wf (OpenSpec.ofChange Rows.semAgreesSpec)) = true := by kernel_rfl
theorem ja1 : (laidOutB Tryz.prog) = true := by kernel_rfl
theorem ja2 : (mapsRowed Tryz.prog) = true := by kernel_rfl
theorem ja3 : (Tryz.f4.params.all (Tryz.prog.readableRec ·)) = true := by kernel_rfl
theorem ja4 : (namedTie Tryz.prog Rows.semAgreesRow.named Rows.semAgreesSpec.vars) = true := by kernel_rfl
theorem ja5 : (Rows.semAgreesRow.stops == []) = true := by kernel_rfl
theorem ja6 : (Tryz.prog.stops == []) = true := by kernel_rfl
theorem ja7 : (Rows.semAgreesRow.knobs == []) = true := by kernel_rfl
theorem ja8 : (Tryz.prog.stopKnobs == []) = true := by kernel_rfl
theorem ja9 : (Rows.semAgreesRow.inPlace == Tryz.prog.inPlace 4) = true := by kernel_rfl
theorem ja10 : (Rows.semAgreesRow.unfollowed == Tryz.prog.unfollowed 4) = true := by kernel_rfl
theorem ja11 : (Rows.semAgreesRow.recurses == Tryz.prog.recurses 4) = true := by kernel_rfl
theorem ja12 : (Rows.semAgreesRow.named == Tryz.prog.varsNamed 4) = true := by kernel_rfl
theorem ja13 : (Rows.semAgreesRow.maps == (Tryz.f4.params.toList ++ Rows.semAgreesSpec.plain.varTypes Tryz.prog).any (Tryz.prog.mapsRec ·)) = true := by kernel_rfl
theorem ja14 : (Rows.semAgreesRow.ifaces == (Tryz.f4.params.toList ++ Rows.semAgreesSpec.plain.varTypes Tryz.prog).any (Tryz.prog.ifacesRec ·)) = true := by kernel_rfl
theorem ja15 : (Rows.semAgreesRow.mapsOut == Tryz.prog.mapsAmong Tryz.f4.resultTypes.toList) = true := by kernel_rfl
theorem ja16 : (Rows.semAgreesRow.loops == (Tryz.f4.params.toList ++ Rows.semAgreesSpec.plain.varTypes Tryz.prog).any (Tryz.prog.loopsFrom ·)) = true := by kernel_rfl
theorem ja17 : (Rows.semAgreesRow.wideKeys == (Tryz.f4.params.toList ++ Rows.semAgreesSpec.plain.varTypes Tryz.prog ++ Tryz.f4.resultTypes.toList).any (Tryz.prog.wideKeysFrom ·)) = true := by kernel_rfl
theorem ja18 : (Rows.semAgreesSpec.vars.all (Tryz.prog.varReadable ·)) = true := by kernel_rfl
theorem ja19 : (Tryz.f4.resultTypes.all (fun t => Tryz.prog.readableRec t && decide (t < Tryz.prog.types.size))) = true := by kernel_rfl
theorem ja20 : (Rows.semAgreesRow.ifacesOut == Tryz.f4.resultTypes.toList.any (Tryz.prog.ifacesRec ·)) = true := by kernel_rfl
theorem ja21 : (Rows.semAgreesRow.loopsOut == Tryz.f4.resultTypes.toList.any (Tryz.prog.loopsFrom ·)) = true := by kernel_rfl
theorem ja22 : (Rows.semAgreesRow.plainKeys == Tryz.prog.plainKeys) = true := by kernel_rfl
theorem ja23 : (Rows.semAgreesRow.shortTexts.isNone) = true := by kernel_rfl
theorem ja24 : (Tryz.prog.stopsHeard) = true := by kernel_rfl
theorem ja25 : (Tryz.prog.mayEnter) = true := by kernel_rfl
theorem ja26 : (Rows.semAgreesRow.lifted == Tryz.prog.liftsFinal) = true := by kernel_rfl
theorem ja27 : (Tryz.prog.make == some Rows.semAgreesRow.make) = true := by kernel_rfl
theorem ja28 : (Rows.semAgreesRow.kinds == (if Rows.semAgreesRow.domain.isEmpty then [] else Tryz.f4.params.toList.map fun t => match Tryz.prog.underlying t with | some (.int k) => some k | _ => none)) = true := by kernel_rfl
theorem ja29 : (Rows.semAgreesRow.pinned == Rows.semAgreesRow.pinnedBy) = true := by kernel_rfl
theorem ja30 : (Rows.semAgreesRow.veiled == (Tryz.f4.params.toList ++ Rows.semAgreesSpec.plain.varTypes Tryz.prog ++ Tryz.f4.resultTypes.toList).any (Tryz.prog.veiledRec ·)) = true := by kernel_rfl
theorem ja31 : (Rows.semAgreesRow.veiledFits Tryz.prog Tryz.f4.params.toList (Tryz.f4.params.toList ++ Rows.semAgreesSpec.plain.varTypes Tryz.prog ++ Tryz.f4.resultTypes.toList)) = true := by kernel_rfl
set_option maxRecDepth 100000 in
theorem ja : joinedFacts Tryz.prog 4 Tryz.f4 Rows.semAgreesSpec Rows.semAgreesRow = true := (and_t (and_t (and_t (and_t (and_t (and_t (and_t (and_t (and_t (and_t (and_t (and_t (and_t (and_t (and_t (and_t (and_t (and_t (and_t (and_t (and_t (and_t (and_t (and_t (and_t (and_t (and_t (and_t (and_t (and_t (and_t ja0 ja1) ja2) ja3) ja4) ja5) ja6) ja7) ja8) ja9) ja10) ja11) ja12) ja13) ja14) ja15) ja16) ja17) ja18) ja19) ja20) ja21) ja22) ja23) ja24) ja25) ja26) ja27) ja28) ja29) ja30) ja31)
end
end Go.SYG
set_option linter.unusedVariables false
namespace Go.SYG
open Go Go.SY Go.Proofs Go.RowKit Go.ChangeShapes Go.Proofs.YtolebnomgllgaaaGreatDoor
noncomputable section
theorem jc1 : Tryz.checked.prog.mainIs = some ((true, "a6d93bb8c9e01336e2f6505376c796ab2a96dd497432187cac32f7916423d991").1, (true, "a6d93bb8c9e01336e2f6505376c796ab2a96dd497432187cac32f7916423d991").2.toList) := by kernel_rfl
theorem jc3 : Tryz.prog.funcNamed "cupel/cupellaw03.SemAgrees" = some 4 := by kernel_rfl
theorem jc4 : Tryz.f4.params = #[33, 33] := by kernel_rfl
theorem jc5 : Tryz.prog.wantsStandIn 33 = false := by kernel_rfl
theorem jc6 : Rows.semAgreesRow.wfByText (OpenSpec.ofChange Rows.semAgreesSpec) = true := by kernel_rfl
theorem jc7 : false = Rows.semAgreesRow.goesBy Tryz.checked.prog := by kernel_rfl
theorem jc2 : true = Tryz.checked.prog.looks [] := by kernel_rfl
end
end Go.SYG

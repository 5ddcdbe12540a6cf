/- SEM: the closed facts of a row, one by one. -/
import Derived.Test.YtolebnomgllgaaaGreatDoorSgF
set_option linter.unusedVariables false
namespace Go.SYG
open Go Go.SY Go.Proofs Go.RowKit Go.ChangeShapes Go.Proofs.YtolebnomgllgaaaGreatDoor
noncomputable section
theorem and_t {a b : Bool} (ha : a = true) (hb : b = true) : (a && b) = true := by rw [ha, hb]; rfl
theorem jo0 : (Rows.semOperatesRow.wf (OpenSpec.ofChange Rows.semOperatesSpec)) = true := by kernel_rfl
theorem jo1 : (laidOutB Tryz.prog) = true := by kernel_rfl
theorem jo2 : (mapsRowed Tryz.prog) = true := by kernel_rfl
theorem jo3 : (Tryz.f3.params.all (Tryz.prog.readableRec ·)) = true := by kernel_rfl
theorem jo4 : (namedTie Tryz.prog Rows.semOperatesRow.named Rows.semOperatesSpec.vars) = true := by kernel_rfl
theorem jo5 : (Rows.semOperatesRow.stops == []) = true := by kernel_rfl
theorem jo6 : (Tryz.prog.stops == []) = true := by kernel_rfl
theorem jo7 : (Rows.semOperatesRow.knobs == []) = true := by kernel_rfl
theorem jo8 : (Tryz.prog.stopKnobs == []) = true := by kernel_rfl
theorem jo9 : (Rows.semOperatesRow.inPlace == Tryz.prog.inPlace 3) = true := by kernel_rfl
theorem jo10 : (Rows.semOperatesRow.unfollowed == Tryz.prog.unfollowed 3) = true := by kernel_rfl
theorem jo11 : (Rows.semOperatesRow.recurses == Tryz.prog.recurses 3) = true := by kernel_rfl
theorem jo12 : (Rows.semOperatesRow.named == Tryz.prog.varsNamed 3) = true := by kernel_rfl
theorem jo13 : (Rows.semOperatesRow.maps == (Tryz.f3.params.toList ++ Rows.semOperatesSpec.plain.varTypes Tryz.prog).any (Tryz.prog.mapsRec ·)) = true := by kernel_rfl
theorem jo14 : (Rows.semOperatesRow.ifaces == (Tryz.f3.params.toList ++ Rows.semOperatesSpec.plain.varTypes Tryz.prog).any (Tryz.prog.ifacesRec ·)) = true := by kernel_rfl
theorem jo15 : (Rows.semOperatesRow.mapsOut == Tryz.prog.mapsAmong Tryz.f3.resultTypes.toList) = true := by kernel_rfl
theorem jo16 : (Rows.semOperatesRow.loops == (Tryz.f3.params.toList ++ Rows.semOperatesSpec.plain.varTypes Tryz.prog).any (Tryz.prog.loopsFrom ·)) = true := by kernel_rfl
theorem jo17 : (Rows.semOperatesRow.wideKeys == (Tryz.f3.params.toList ++ Rows.semOperatesSpec.plain.varTypes Tryz.prog ++ Tryz.f3.resultTypes.toList).any (Tryz.prog.wideKeysFrom ·)) = true := by kernel_rfl
theorem jo18 : (Rows.semOperatesSpec.vars.all (Tryz.prog.varReadable ·)) = true := by kernel_rfl
theorem jo19 : (Tryz.f3.resultTypes.all (fun t => Tryz.prog.readableRec t && decide (t < Tryz.prog.types.size))) = true := by kernel_rfl
theorem jo20 : (Rows.semOperatesRow.ifacesOut == Tryz.f3.resultTypes.toList.any (Tryz.prog.ifacesRec ·)) = true := by kernel_rfl
theorem jo21 : (Rows.semOperatesRow.loopsOut == Tryz.f3.resultTypes.toList.any (Tryz.prog.loopsFrom ·)) = true := by kernel_rfl
theorem jo22 : (Rows.semOperatesRow.plainKeys == Tryz.prog.plainKeys) = true := by kernel_rfl
theorem jo23 : (Rows.semOperatesRow.shortTexts.isNone) = true := by kernel_rfl
theorem jo24 : (Tryz.prog.stopsHeard) = true := by kernel_rfl
theorem jo25 : (Tryz.prog.mayEnter) = true := by kernel_rfl
theorem jo26 : (Rows.semOperatesRow.lifted == Tryz.prog.liftsFinal) = true := by kernel_rfl
theorem jo27 : (Tryz.prog.make == some Rows.semOperatesRow.make) = true := by kernel_rfl
theorem jo28 : (Rows.semOperatesRow.kinds == (if Rows.semOperatesRow.domain.isEmpty then [] else Tryz.f3.params.toList.map fun t => match Tryz.prog.underlying t with | some (.int k) => some k | _ => none)) = true := by kernel_rfl
theorem jo29 : (Rows.semOperatesRow.pinned == Rows.semOperatesRow.pinnedBy) = true := by kernel_rfl
theorem jo30 : (Rows.semOperatesRow.veiled == (Tryz.f3.params.toList ++ Rows.semOperatesSpec.plain.varTypes Tryz.prog ++ Tryz.f3.resultTypes.toList).any (Tryz.prog.veiledRec ·)) = true := by kernel_rfl
theorem jo31 : (Rows.semOperatesRow.veiledFits Tryz.prog Tryz.f3.params.toList (Tryz.f3.params.toList ++ Rows.semOperatesSpec.plain.varTypes Tryz.prog ++ Tryz.f3.resultTypes.toList)) = true := by kernel_rfl
set_option maxRecDepth 100000 in
theorem jo : joinedFacts Tryz.prog 3 Tryz.f3 Rows.semOperatesSpec Rows.semOperatesRow = true := (and_t (and_t (and_t (and_t (and_t (and_t (and_t (and_t (and_t (and_t (and_t (and_t (and_t (and_t (and_t (and_t (and_t (and_t (and_t (and_t (and_t (and_t (and_t (and_t (and_t (and_t (and_t (and_t (and_t (and_t (and_t jo0 jo1) jo2) jo3) jo4) jo5) jo6) jo7) jo8) jo9) jo10) jo11) jo12) jo13) jo14) jo15) jo16) jo17) jo18) jo19) jo20) jo21) jo22) jo23) jo24) jo25) jo26) jo27) jo28) jo29) jo30) jo31)
end
end Go.SYG
set_option linter.unusedVariables false
namespace Go.SYG
open Go Go.SY Go.Proofs Go.RowKit Go.ChangeShapes Go.Proofs.YtolebnomgllgaaaGreatDoor
noncomputable section
theorem jp3 : Tryz.prog.funcNamed "cupel/cupellaw03.SemOperates" = some 3 := by kernel_rfl
theorem jp4 : Tryz.f3.params = #[23] := by kernel_rfl
theorem jp5 : Tryz.prog.wantsStandIn 23 = false := by kernel_rfl
theorem jp6 : Rows.semOperatesRow.wfByText (OpenSpec.ofChange Rows.semOperatesSpec) = true := by kernel_rfl
theorem jp7 : false = Rows.semOperatesRow.goesBy Tryz.checked.prog := by kernel_rfl
theorem jc1 : Tryz.checked.prog.mainIs = some ((true, "a6d93bb8c9e01336e2f6505376c796ab2a96dd497432187cac32f7916423d991").1, (true, "a6d93bb8c9e01336e2f6505376c796ab2a96dd497432187cac32f7916423d991").2.toList) := by kernel_rfl
theorem jc2 : true = Tryz.checked.prog.looks [] := by kernel_rfl
end
end Go.SYG

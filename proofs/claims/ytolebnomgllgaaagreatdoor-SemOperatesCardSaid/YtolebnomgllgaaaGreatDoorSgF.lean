/- SEM: what the rows of this seat have in common. -/
import Derived.Test.YtolebnomgllgaaaGreatDoorSgA
import Derived.Test.YtolebnomgllgaaaGreatDoorSyU
import Derived.Test.YtolebnomgllgaaaGreatDoorCards
import Derived.Test.YtolebnomgllgaaaGreatDoorTie
import Derived.ProofKit
import Derived.JoinedOf
import Derived.SevenTiedAt
import Derived.Stop.Joined
import Derived.ChangeVars
set_option linter.unusedVariables false
namespace Go.SYG
open Go Go.SY Go.Proofs Go.RowKit Go.ChangeShapes Go.Proofs.YtolebnomgllgaaaGreatDoor Go.ChangeAt
noncomputable section
theorem own : ownKnob Tryz.prog.godebug = none := by kernel_rfl
theorem kids : Kids Tryz.prog (· < Tryz.prog.types.size) := kids_rows (by kernel_rfl) (by kernel_rfl)
theorem full : ∀ t e, t < Tryz.prog.types.size → Tryz.prog.underlying t = some (.slice e) → 0 < Tryz.prog.cellsOf e := slices_full_of _ (by kernel_rfl)
def wordsL : List (List UInt8) := [[103, 108, 111, 98, 97, 108], [102, 117, 110, 99], [108, 101, 116], [105, 102], [101, 108, 115, 101], [119, 104, 105, 108, 101], [117, 112, 116, 111], [102, 111, 114], [105, 110], [98, 114, 101, 97, 107], [99, 111, 110, 116, 105, 110, 117, 101], [114, 101, 116, 117, 114, 110], [112, 114, 105, 110, 116], [116, 114, 97, 112], [105, 110, 116], [115, 109, 97, 108, 108], [98, 111, 111, 108], [116, 114, 117, 101], [102, 97, 108, 115, 101]]
def shapesL : List Value := [.bool false, .bool false, .bool false, .int .i64 0, .int .i64 0, .bool true, .bool false, .bool false, .int .i64 0, .int .i64 1, .bool true, .bool false, .bool false, .int .i64 1, .int .i64 1, .bool true, .bool false, .bool false, .int .i64 2, .int .i64 2, .bool false, .bool false, .bool false, .int .i64 1, .int .i64 1, .bool false, .bool false, .bool false, .int .i64 1, .int .i64 1, .bool false, .bool false, .bool false, .int .i64 0, .int .i64 0, .bool false, .bool true, .bool true, .int .i64 1, .int .i64 1, .bool false, .bool true, .bool false, .int .i64 1, .int .i64 1, .bool true, .bool true, .bool false, .int .i64 2, .int .i64 2, .bool false, .bool false, .bool false, .int .i64 0, .int .i64 0, .bool false, .bool false, .bool false, .int .i64 0, .int .i64 0, .bool false, .bool false, .bool false, .int .i64 0, .int .i64 1]
noncomputable def laidWorld (os : Os) : World :=
  let w0 := World.holding Tryz.prog os ⟨#[], #[], []⟩
  { w0 with heap := (((((w0.heap.modify 1 fun
      | .cells _ t frozen => .cells shapesL.toArray t frozen
      | o => o).modify 2 fun
      | .cells _ t frozen => .cells #[.int .i64 1, .int .i64 0] t frozen
      | o => o).modify 3 fun
      | .cells _ t frozen => .cells #[.int .i64 2, .int .i64 0] t frozen
      | o => o).modify 4 fun
      | .cells _ t frozen => .cells #[.int .i64 3, .int .i64 0] t frozen
      | o => o).modify 5 fun
      | .cells _ t frozen => .cells #[.slice (some ⟨w0.heap.size, 0, none⟩) 19 19] t frozen
      | o => o).push (.cells (wordsL.map fun l => Value.string ⟨l.toArray⟩).toArray 9 (0, 0)) }
theorem laidWorld_met (os : Os) (args : Array Value) : laidMetH Tryz.prog laidL ((laidWorld os).forCall (fun _ _ => 0) ⟨#[], args, []⟩).memory :=
  show laidMet Tryz.prog laidL _ from laidMet_of_run' 8 (by kernel_rfl) (by kernel_rfl)
theorem len1 {α : Type} {l : List α} (h : l.length = 1) : ∃ a, l = [a] := by
  match l, h with
  | [a], _ => exact ⟨a, rfl⟩
end
end Go.SYG

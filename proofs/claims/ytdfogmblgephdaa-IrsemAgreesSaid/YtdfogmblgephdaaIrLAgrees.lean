/- Proved: the law cupellaw10.IrsemAgrees returns true for every two behaviours, and leaves its arguments as they were.
   Conditions: none beyond the statement's; the law and what it calls are executed by the symbolic executor SY of these texts, whose soundness is proved in them. -/
import Derived.Test.YtdfogmblgephdaaIrD
import Derived.Test.YtdfogmblgephdaaRows
set_option linter.unusedVariables false
namespace Go.SYI
open Go Go.SY Go.Proofs Go.RowKit Go.ChangeShapes Go.Proofs.Ytdfogmblgephdaa

theorem own : ownKnob Try.prog.godebug = none := by kernel_rfl
theorem gok (W : World) : GOk X.gl (fzH W) := fun g off n l h => by cases h
theorem kids : Kids Try.prog (· < Try.prog.types.size) := kids_rows (by kernel_rfl) (by kernel_rfl)
theorem full : ∀ t e, t < Try.prog.types.size → Try.prog.underlying t = some (.slice e) → 0 < Try.prog.cellsOf e := slices_full_of _ (by kernel_rfl)
/-- The types that are data. -/
def dts : List Nat := [2, 3, 4, 27, 29]
theorem dts_ok : dataD ty dts dts = true := by kernel_rfl

theorem len2 {α : Type} {l : List α} (h : l.length = 2) : ∃ a b, l = [a, b] := by
  match l, h with
  | [a, b], _ => exact ⟨a, b, rfl⟩
set_option maxRecDepth 100000 in
theorem agrees_lifted (os : Os) (started : os.Started) (H : Type) (enc : TypeId × Value → H) :
    ReturnsInHanded {} Try.checked os 4 .any (Rows.irsemAgreesSpec.pre6 enc Try.prog Try.f4 [] false)
      (Rows.irsemAgreesSpec.post enc Try.prog Try.f4 false true false false) := by
  refine returnsInHanded_of_change (C := Try.checked) own started (by kernel_rfl) Try.func4
    (ChangeSpec.witness6 (enc := enc) (C := Try.checked) (os := os) false ⟨#[], #[.agg #[.slice none 0 0, .int .i64 0, .int .i64 0], .agg #[.slice none 0 0, .int .i64 0, .int .i64 0]], []⟩ 8 (by kernel_rfl) (by kernel_rfl) (by kernel_rfl) (by kernel_rfl) (by kernel_rfl)) ?_
  intro W base args ds gs before hval hW _ _
  exact law_calls XOk gok dts_ok kids full Try.func4 rfl (by kernel_rfl) (by kernel_rfl) (by kernel_rfl) (by kernel_rfl) Try.underlying4 td4 ag4 rfl (fun ds h => by
    obtain ⟨a, b, rfl⟩ := len2 (h.trans (by kernel_rfl))
    rfl) e4 W base args ds gs before hval hW

theorem agrees_holds : Rows.IrsemAgreesSaid :=
  OpenClaim.holds_of_wide 4 Try.f4 rfl rfl rfl rfl rfl rfl rfl ⟨rfl, rfl, rfl, rfl, rfl⟩ rfl rfl rfl rfl rfl (by kernel_rfl) Try.func4 (by kernel_rfl)
    (of_decide_eq_true (by kernel_rfl)) (by unfold Func.isWrapper; rw [if_neg (of_decide_eq_false (by kernel_rfl))]; exact ⟨rfl, rfl⟩)
    (fun os started H enc _ => agrees_lifted os started H enc)

end Go.SYI
namespace Go.Proofs.Ytdfogmblgephdaa
theorem irsem_agrees : Rows.IrsemAgreesSaid := Go.SYI.agrees_holds
end Go.Proofs.Ytdfogmblgephdaa
#print axioms Go.Proofs.Ytdfogmblgephdaa.irsem_agrees

/- Proved: the law cupellaw10.IrsemOperates returns true for every kind and every two numbers, and leaves its arguments as they were.
   Conditions: none beyond the statement's; the law and what it calls are executed by the symbolic executor SY of these texts, whose soundness is proved in them. -/
import Derived.Test.YtdfogmblgephdaaIrC
import Derived.Test.YtdfogmblgephdaaIrR
set_option linter.unusedVariables false
namespace Go.SYI
open Go Go.SY Go.Proofs Go.RowKit Go.ChangeShapes Go.Proofs.Ytdfogmblgephdaa

set_option maxRecDepth 100000 in
theorem operates_lifted (os : Os) (started : os.Started) (H : Type) (enc : TypeId × Value → H) :
    ReturnsInHanded {} Try.checked os 3 .any (Rows.irsemOperatesSpec.pre6 enc Try.prog Try.f3 [] false)
      (Rows.irsemOperatesSpec.post enc Try.prog Try.f3 false true false false) := by
  refine returnsInHanded_of_change (C := Try.checked) own started (by kernel_rfl) Try.func3
    (ChangeSpec.witness6 (enc := enc) (C := Try.checked) (os := os) false ⟨#[], #[.int .i64 0, .int .i64 0, .int .i64 0], []⟩ 8 (by kernel_rfl) (by kernel_rfl) (by kernel_rfl) (by kernel_rfl) (by kernel_rfl)) ?_
  intro W base args ds gs before hval0 hW _ _
  have hval : ∀ (j : Nat) t v, Try.f3.params[j]? = some t → args[j]? = some v → Value.okWide Try.prog W .any base t v := hval0
  have hW' := hW
  obtain ⟨p, q, hA0, hV0, rfl, hfz, hnd⟩ := hW
  have hA : DataW.TrodAll enc Try.prog W 0 (fun _ => true) true Try.f3.params.toList args.toList ds p := hA0
  have hV : DataW.TrodVars enc Try.prog W (fun _ => true) [] gs q := hV0
  rw [Try.params3] at hA hval
  obtain ⟨v2, v0, v1, d2, d0, d1, p2, p0, p1, rfl, rfl, rfl, h2, h0, h1⟩ := trodAll_three hA
  obtain ⟨rfl, rfl⟩ := trodVars_none hV
  obtain ⟨k, rfl, rfl, rfl, wk⟩ := open_int Try.underlying3 (hval 0 3 v2 rfl rfl) h2
  obtain ⟨a, rfl, rfl, rfl, wa⟩ := open_int Try.underlying2 (hval 1 2 v0 rfl rfl) h0
  obtain ⟨b, rfl, rfl, rfl, wb⟩ := open_int Try.underlying2 (hval 2 2 v1 rfl rfl) h1
  obtain ⟨k1, k2⟩ := int_dat (fz := fun _ => none) (w := W) (β := fun _ => none) td3 ag3 (wf64 wk)
  obtain ⟨i1, i2⟩ := int_dat (fz := fun _ => none) (w := W) (β := fun _ => none) td2 ag2 (wf64 wa)
  obtain ⟨j1, j2⟩ := int_dat (fz := fun _ => none) (w := W) (β := fun _ => none) td2 ag2 (wf64 wb)
  have hcall := calls_of_sem Try.func3 rfl (by kernel_rfl) (e3 (fun _ => none) W (fun _ => none) [.int .i64 k, .int .i64 a, .int .i64 b] [.num k, .num a, .num b] [] [] [] (fun c r => c = 0 ∧ r = [.tru true]) (gok _) (fz0 W)
    (by
      simp only [g3, ShRL]
      exact ⟨_, _, _, [.num k], [.num a, .num b], [], [], rfl, rfl, rfl, k1, k2, _, _, _, [.num a], [.num b], [], [], rfl, rfl, rfl, i1, i2, _, _, _, [.num b], [], [], [], rfl, rfl, rfl, j1, j2, rfl, rfl, rfl⟩)
    (by simp only [g3, BlR]; exact ⟨trivial, trivial⟩) (by simp) (by simp) (fun _ _ h => nomatch h)
    ⟨k, a, b, rfl, rfl, rfl⟩)
  refine Calls.mono hcall fun e W' he => ?_
  cases e with
  | returned v =>
    obtain ⟨rs, ⟨_, rfl⟩, ha⟩ := he
    obtain ⟨rfl, hb⟩ := true_of_aft td4 ag4 ha
    refine ⟨_, rfl, _, _, _, [], [], [], hW', ?_, ?_, ?_, World.keptBut_mono (fun _ h => h.elim) (keptBut_of_belw hb), fun h => by cases h⟩
    · exact trodAll_mk1 (shut_bool Try.underlying4 true)
    · exact trodAll_mk3 (shut_int Try.underlying3 wk) (shut_int Try.underlying2 wa) (shut_int Try.underlying2 wb)
    · rfl
  | panicked chain =>
    obtain ⟨v, _, o, rs, hp, _⟩ := he
    cases hp
  | outgrown => exact he.elim

theorem operates_holds : Rows.IrsemOperatesSaid :=
  OpenClaim.holds_of_wide 3 Try.f3 rfl rfl rfl rfl rfl rfl rfl ⟨rfl, rfl, rfl, rfl, rfl⟩ rfl rfl rfl rfl rfl (by kernel_rfl) Try.func3 (by kernel_rfl)
    (of_decide_eq_true (by kernel_rfl)) (by unfold Func.isWrapper; rw [if_neg (of_decide_eq_false (by kernel_rfl))]; exact ⟨rfl, rfl⟩)
    (fun os started H enc _ => operates_lifted os started H enc)

end Go.SYI
namespace Go.Proofs.Ytdfogmblgephdaa
theorem irsem_operates : Rows.IrsemOperatesSaid := Go.SYI.operates_holds
end Go.Proofs.Ytdfogmblgephdaa
#print axioms Go.Proofs.Ytdfogmblgephdaa.irsem_operates

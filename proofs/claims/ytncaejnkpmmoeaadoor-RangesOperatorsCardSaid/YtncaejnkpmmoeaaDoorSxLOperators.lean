/- Proved: the law cupellaw04.RangesOperators returns true for every operator, kind and ranges, and leaves its arguments as they were (the tied card of its row).
   Conditions: the package variables ranges.full and ranges.none hold what the program's text lays (the card ties them); the law and what it calls are executed by the symbolic executor SX of these texts, whose soundness is proved in them. -/
import Derived.Test.YtncaejnkpmmoeaaDoorSxC4
import Derived.Test.YtncaejnkpmmoeaaDoorSxB4
import Derived.Test.YtncaejnkpmmoeaaDoorSxRS
import Derived.Test.YtncaejnkpmmoeaaDoorSxU6
set_option linter.unusedVariables false
set_option linter.unusedSimpArgs false
namespace Go.SXR
open Go Go.SX Go.Proofs Go.RowKit Go.ChangeShapes Go.WideShapes Go.Joins Go.Deep Go.Proofs.YtncaejnkpmmoeaaDoor Go.ChangeAt

def operatorsLawS : List Int → Option (List Int)
  | [op, k, a, b, c, d] => if in4 a b c d then some [1] else none
  | _ => none
def sg8 : Sig := ⟨[(.agg [.int .i64, .int .i64]), (.agg [.int .i64, .int .i64]), (.agg [.int .i64, .int .i64])], [L]⟩
def t8 : T := (.call 10 [] 1 (.br (.cmp .eq (.v 6) (.n 0)) (.ret [(.n 0)]) (.call 26 [(.v 0), (.v 1), (.v 2), (.v 3)] 3 (.call 27 [(.v 0), (.v 1), (.v 2), (.v 3)] 3 (.br (.or (.not (.and (.cmp .eq (.v 7) (.v 10)) (.cmp .eq (.v 8) (.v 11)))) (.not (.cmp .eq (.v 9) (.v 12)))) (.ret [(.n 0)]) (.call 15 [(.v 0), (.v 1), (.v 2), (.v 3), (.v 4), (.v 5)] 6 (.call 28 [(.v 0), (.v 1), (.v 2), (.v 3), (.v 4), (.v 5)] 6 (.br (.or (.not (.and (.and (.cmp .eq (.v 13) (.v 19)) (.cmp .eq (.v 14) (.v 20))) (.and (.or (.and (.not (.cmp .eq (.v 15) (.n 0))) (.not (.cmp .eq (.v 21) (.n 0)))) (.and (.cmp .eq (.v 15) (.n 0)) (.cmp .eq (.v 21) (.n 0)))) (.and (.or (.and (.not (.cmp .eq (.v 16) (.n 0))) (.not (.cmp .eq (.v 22) (.n 0)))) (.and (.cmp .eq (.v 16) (.n 0)) (.cmp .eq (.v 22) (.n 0)))) (.or (.and (.not (.cmp .eq (.v 17) (.n 0))) (.not (.cmp .eq (.v 23) (.n 0)))) (.and (.cmp .eq (.v 17) (.n 0)) (.cmp .eq (.v 23) (.n 0)))))))) (.not (.cmp .eq (.v 18) (.v 24)))) (.ret [(.n 0)]) (.call 29 [(.v 2), (.v 3)] 3 (.call 30 [(.v 2), (.v 3)] 3 (.lt (.sel (.and (.and (.cmp .eq (.v 25) (.v 28)) (.cmp .eq (.v 26) (.v 29))) (.cmp .eq (.v 27) (.v 30))) (.n 1) (.n 0)) (.ret [(.v 31)]))))))))))))
theorem q8 : sxFunc (Cf [p10, p15g, p26, p27, p28, p29, p30] unAll) 200 8 sg8 = t8 := by kernel_rfl
theorem c8 {F : Nat → List Int → Option (List Int)} {op k a b c d : Int} (g10 : F 10 = shownS) (g15 : F 15 = binS) (g26 : F 26 = unaryS) (g27 : F 27 = unaryS) (g28 : F 28 = binS) (g29 : F 29 = toSmallS) (g30 : F 30 = toSmallS) (hr : in4 a b c d) : t8.den F 0 [op, k, a, b, c, d] = some (0, [1]) := by
  have f10 : F 10 [] = some [1] := by rw [g10]; rfl
  obtain ⟨x0, x1, x2, x3, x4, x5, hx⟩ := bin_form op k a b c d
  have f15 : F 15 [op, k, a, b, c, d] = some [x0, x1, x2, x3, x4, x5] := by rw [g15, ← hx]; exact if_pos hr
  have f28 : F 28 [op, k, a, b, c, d] = some [x0, x1, x2, x3, x4, x5] := by rw [g28, ← hx]; exact if_pos hr
  have hab : inI a ∧ inI b := ⟨hr.1, hr.2.1⟩
  have f26 : F 26 [op, k, a, b] = some [unL op k a b, unH op k a b, unE op k a b] := by rw [g26]; exact if_pos hab
  have f27 : F 27 [op, k, a, b] = some [unL op k a b, unH op k a b, unE op k a b] := by rw [g27]; exact if_pos hab
  have f29 : F 29 [a, b] = some [smL a b, smH a b, smE a b] := by rw [g29]; exact if_pos hab
  have f30 : F 30 [a, b] = some [smL a b, smH a b, smE a b] := by rw [g30]; exact if_pos hab
  by_cases h2 : x2 = 0 <;> by_cases h3 : x3 = 0 <;> by_cases h4 : x4 = 0 <;> simp [t8, T.den, B.den, A.den, E.den, Cm.den, f10, f15, f28, f26, f27, f29, f30, h2, h3, h4]
noncomputable def p8 : Sp := (8, sg8, operatorsLawS)
theorem e8 : Ent p8 := ent_of unAll (l := [p10, p15g, p26, p27, p28, p29, p30]) (ents_cons e10 (ents_cons e15g (ents_cons e26 (ents_cons e27 (ents_cons e28 (ents_cons e29 (ents_cons e30 ents_nil))))))) q8 fun args rs h hl => by
  match args, hl with
  | [op, k, a, b, c, d], _ =>
    simp only [operatorsLawS] at h
    split at h
    · rename_i hr
      cases h
      exact ⟨0, c8 rfl rfl rfl rfl rfl rfl rfl hr⟩
    · cases h

set_option maxRecDepth 100000 in
theorem operators_lifted (os : Os) (started : os.Started) (H : Type) (enc : TypeId × Value → H) :
    ReturnsInHanded {} Tryd.checked os 8 .any (fun w args => (Rows.rangesOperatorsSpec.pre enc Tryd.prog Tryd.f8 [] false w args ∧ laidMetH Tryd.prog laidL w) ∧ sizedMet enc Tryd.prog Tryd.f8 (OpenSpec.ofChange Rows.rangesOperatorsSpec) false w args)
      (Rows.rangesOperatorsSpec.post enc Tryd.prog Tryd.f8 false true false false) := by
  refine returnsInHanded_of_change_and (C := Tryd.checked) (X := fun w _ => laidMetH Tryd.prog laidL w) (fun _ _ _ hh h => h.of_heap hh) own started (by kernel_rfl) Tryd.func8
    (ChangeSpec.witness_at (enc := enc) (C := Tryd.checked) (os := os) (X := fun w _ => laidMetH Tryd.prog laidL w) false (laidWorld os) #[.agg #[.int .i64 0, .int .i64 0], .agg #[.int .i64 0, .int .i64 0], .agg #[.int .i64 0, .int .i64 0]] 8 rfl (by kernel_rfl) (by kernel_rfl) (by kernel_rfl) (by kernel_rfl) (by kernel_rfl) (laidWorld_met os _)) ?_
  intro W base args ds gs before hval0 hW _ _ hL _
  have hval : ∀ (j : Nat) t v, Tryd.f8.params[j]? = some t → args[j]? = some v → Value.okWide Tryd.prog W .any base t v := hval0
  have hW' := hW
  obtain ⟨p, q, hA0, hV0, rfl, hfz, hnd⟩ := hW
  have hA : DataW.TrodAll enc Tryd.prog W 0 (fun _ => true) true Tryd.f8.params.toList args.toList ds p := hA0
  have hV : DataW.TrodVars enc Tryd.prog W (fun _ => true) [] gs q := hV0
  rw [Tryd.params8] at hA hval
  obtain ⟨v0, v1, v2, d0, d1, d2, p0, p1, p2, rfl, rfl, rfl, h0, h1, h2⟩ := trodAll_three hA
  obtain ⟨rfl, rfl⟩ := trodVars_none hV
  obtain ⟨op, k, rfl, rfl, rfl, wo, wk⟩ := pair_open Tryd.underlying23 one23 cells23 Tryd.underlying3 Tryd.underlying3 (hval 0 23 v0 rfl rfl) h0
  obtain ⟨a, b, rfl, rfl, rfl, wa, wb⟩ := pair_open Tryd.underlying25 one25 cells25 Tryd.underlying2 Tryd.underlying2 (hval 1 25 v1 rfl rfl) h1
  obtain ⟨c, d, rfl, rfl, rfl, wc, wd⟩ := pair_open Tryd.underlying25 one25 cells25 Tryd.underlying2 Tryd.underlying2 (hval 2 25 v2 rfl rfl) h2
  have hcall := calls_of_sem Tryd.func8 rfl (by kernel_rfl) (e8 [op, k, a, b, c, d] [1] W (if_pos ⟨wf64 wa, wf64 wb, wf64 wc, wf64 wd⟩) rfl (glob_of_laid hL))
  refine Calls.mono hcall fun e W' he => ?_
  cases e with
  | returned v =>
    obtain ⟨rfl, hb⟩ := he
    refine ⟨_, rfl, _, _, _, [], [], [], hW', ?_, ?_, ?_, World.keptBut_mono (fun _ h => h.elim) (keptBut_of_below hb), fun h => by cases h⟩
    · exact trodAll_mk1 (shut_bool Tryd.underlying4 true)
    · exact trodAll_mk3 (pair_shut Tryd.underlying23 one23 cells23 Tryd.underlying3 Tryd.underlying3 wo wk) (shut25 wa wb) (shut25 wc wd)
    · rfl
  | panicked _ => exact he.elim
  | outgrown => exact he.elim

theorem operators_holds : Rows.RangesOperatorsSaid :=
  OpenClaim.holds_of_wide 8 Tryd.f8 rfl rfl rfl rfl rfl rfl rfl ⟨rfl, rfl, rfl, rfl, rfl⟩ rfl rfl rfl rfl rfl (by kernel_rfl) Tryd.func8 (by kernel_rfl)
    (of_decide_eq_true (by kernel_rfl)) (by unfold Func.isWrapper; rw [if_neg (of_decide_eq_false (by kernel_rfl))]; exact ⟨rfl, rfl⟩)
    (fun os started H enc _ => operators_lifted os started H enc)

theorem operators_card : Rows.RangesOperatorsCardSaid :=
  Claim7.holds_tied_plain_at .later [] [.data, .data] true (true, "de87536829a3227c3e4862b1786049b911f607e593883a4a1c4be2254a7eb771") false
    operators_holds (fun _ h => by cases h) (by kernel_rfl) (fun _ h => by cases h) rangesOperators_row_tie rfl ⟨rfl, rfl⟩ (by kernel_rfl) rfl
    (fun f fn hf hfn => by
      obtain rfl : f = 8 := Option.some.inj ((show Tryd.prog.funcNamed "cupel/cupellaw04.RangesOperators" = some 8 by kernel_rfl).symm.trans hf) |>.symm
      obtain rfl : fn = Tryd.f8 := (Option.some.inj (Tryd.func8.symm.trans hfn)).symm
      exact ⟨by kernel_rfl, fun j t ht => by
        rw [Tryd.params8] at ht
        rcases j with _ | _ | _ | j
        · simp at ht; subst ht; exact (show Tryd.prog.wantsStandIn 23 = false by kernel_rfl)
        · simp at ht; subst ht; exact (show Tryd.prog.wantsStandIn 25 = false by kernel_rfl)
        · simp at ht; subst ht; exact (show Tryd.prog.wantsStandIn 25 = false by kernel_rfl)
        · simp at ht⟩)
    (by kernel_rfl)
end Go.SXR
namespace Go.Proofs.YtncaejnkpmmoeaaDoor
theorem ranges_operators_card : Rows.RangesOperatorsCardSaid := Go.SXR.operators_card
end Go.Proofs.YtncaejnkpmmoeaaDoor
#print axioms Go.Proofs.YtncaejnkpmmoeaaDoor.ranges_operators_card

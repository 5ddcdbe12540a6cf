/- Proved: the law cupellaw04.RangesSets returns true for every kind and every two ranges, and leaves its arguments as they were (the tied card of its row).
   Conditions: the package variables ranges.full and ranges.none hold what the program's text lays (the card ties them); the law and what it calls are executed by the symbolic executor SX of these texts, whose soundness is proved in them. -/
import Derived.Test.YtncaejnkpmmoeaaDoorSxR2
import Derived.Test.YtncaejnkpmmoeaaDoorSxRS
import Derived.Test.YtncaejnkpmmoeaaDoorSxR4
set_option linter.unusedVariables false
namespace Go.SXR
open Go Go.SX Go.Proofs Go.RowKit Go.ChangeShapes Go.WideShapes Go.Joins Go.Deep Go.Proofs.YtncaejnkpmmoeaaDoor Go.ChangeAt

/-! ### The law -/
def setsS : List Int → Option (List Int)
  | [k, a, b, c, d] => if in4 a b c d then some [1] else none
  | _ => none

def sg7 : Sig := ⟨[I, (.agg [.int .i64, .int .i64]), (.agg [.int .i64, .int .i64])], [L]⟩
def t7 : T := (.call 10 [] 1 (.br (.cmp .eq (.v 5) (.n 0)) (.ret [(.n 0)]) (.call 20 [(.v 0)] 3 (.call 21 [(.v 0)] 3 (.br (.not (.or (.not (.and (.cmp .eq (.v 6) (.v 9)) (.cmp .eq (.v 7) (.v 10)))) (.not (.cmp .eq (.v 8) (.v 11))))) (.call 17 [(.v 0), (.v 1), (.v 2)] 1 (.call 22 [(.v 0), (.v 1), (.v 2)] 1 (.br (.or (.or (.not (.and (.cmp .eq (.v 6) (.v 9)) (.cmp .eq (.v 7) (.v 10)))) (.not (.cmp .eq (.v 8) (.v 11)))) (.not (.cmp .eq (.v 12) (.v 13)))) (.ret [(.n 0)]) (.call 19 [(.v 1), (.v 2), (.v 3), (.v 4)] 3 (.call 23 [(.v 1), (.v 2), (.v 3), (.v 4)] 3 (.br (.or (.not (.and (.cmp .eq (.v 14) (.v 17)) (.cmp .eq (.v 15) (.v 18)))) (.not (.cmp .eq (.v 16) (.v 19)))) (.ret [(.n 0)]) (.call 24 [(.v 1), (.v 2), (.v 3), (.v 4)] 4 (.call 25 [(.v 1), (.v 2), (.v 3), (.v 4)] 4 (.lt (.sel (.and (.and (.and (.cmp .eq (.v 20) (.v 24)) (.cmp .eq (.v 21) (.v 25))) (.or (.and (.not (.cmp .eq (.v 22) (.n 0))) (.not (.cmp .eq (.v 26) (.n 0)))) (.and (.cmp .eq (.v 22) (.n 0)) (.cmp .eq (.v 26) (.n 0))))) (.cmp .eq (.v 23) (.v 27))) (.n 1) (.n 0)) (.ret [(.v 28)])))))))))) (.ret [(.n 0)]))))))
theorem q7 : sxFunc (Cf [p10, p20, p21, p17, p22, p19, p23, p24, p25] unAll) 200 7 sg7 = t7 := by kernel_rfl
def p7 : Sp := (7, sg7, setsS)
theorem e7 : Ent p7 := ent_of unAll (l := [p10, p20, p21, p17, p22, p19, p23, p24, p25]) (ents_cons e10 (ents_cons e20 (ents_cons e21 (ents_cons e17 (ents_cons e22 (ents_cons e19 (ents_cons e23 (ents_cons e24 (ents_cons e25 ents_nil))))))))) q7 fun args rs h hl => by
  match args, hl with
  | [k, a, b, c, d], _ =>
    simp only [setsS] at h
    split at h
    · rename_i hr
      cases h
      refine ⟨0, ?_⟩
      have h1 : checkS [k, a, b] = some [checkE k a b] := if_pos ⟨hr.1, hr.2.1⟩
      have h2 : joinS [a, b, c, d] = some [joinL a b c d, joinH a b c d, pairE a b c d] := if_pos hr
      have h3 : meetS [a, b, c, d] = some [meetL a b c d, meetH a b c d, meetB a b c d, pairE a b c d] := if_pos hr
      have g10 : fOf [p10, p20, p21, p17, p22, p19, p23, p24, p25] 10 = shownS := rfl
      have g20 : fOf [p10, p20, p21, p17, p22, p19, p23, p24, p25] 20 = fullS := rfl
      have g21 : fOf [p10, p20, p21, p17, p22, p19, p23, p24, p25] 21 = fullS := rfl
      have g17 : fOf [p10, p20, p21, p17, p22, p19, p23, p24, p25] 17 = checkS := rfl
      have g22 : fOf [p10, p20, p21, p17, p22, p19, p23, p24, p25] 22 = checkS := rfl
      have g19 : fOf [p10, p20, p21, p17, p22, p19, p23, p24, p25] 19 = joinS := rfl
      have g23 : fOf [p10, p20, p21, p17, p22, p19, p23, p24, p25] 23 = joinS := rfl
      have g24 : fOf [p10, p20, p21, p17, p22, p19, p23, p24, p25] 24 = meetS := rfl
      have g25 : fOf [p10, p20, p21, p17, p22, p19, p23, p24, p25] 25 = meetS := rfl
      simp [t7, T.den, B.den, A.den, E.den, Cm.den, g10, g20, g21, g17, g22, g19, g23, g24, g25, shownS, fullS, h1, h2, h3]
    · cases h


set_option maxRecDepth 100000 in
theorem sets_lifted (os : Os) (started : os.Started) (H : Type) (enc : TypeId × Value → H) :
    ReturnsInHanded {} Tryd.checked os 7 .any (fun w args => (Rows.rangesSetsSpec.pre enc Tryd.prog Tryd.f7 [] false w args ∧ laidMetH Tryd.prog laidL w) ∧ sizedMet enc Tryd.prog Tryd.f7 (OpenSpec.ofChange Rows.rangesSetsSpec) false w args)
      (Rows.rangesSetsSpec.post enc Tryd.prog Tryd.f7 false true false false) := by
  refine returnsInHanded_of_change_and (C := Tryd.checked) (X := fun w _ => laidMetH Tryd.prog laidL w) (fun _ _ _ hh h => h.of_heap hh) own started (by kernel_rfl) Tryd.func7
    (ChangeSpec.witness_at (enc := enc) (C := Tryd.checked) (os := os) (X := fun w _ => laidMetH Tryd.prog laidL w) false (laidWorld os) #[.int .i64 0, .agg #[.int .i64 0, .int .i64 0], .agg #[.int .i64 0, .int .i64 0]] 8 rfl (by kernel_rfl) (by kernel_rfl) (by kernel_rfl) (by kernel_rfl) (by kernel_rfl) (laidWorld_met os _)) ?_
  intro W base args ds gs before hval0 hW _ _ hL _
  have hval : ∀ (j : Nat) t v, Tryd.f7.params[j]? = some t → args[j]? = some v → Value.okWide Tryd.prog W .any base t v := hval0
  have hW' := hW
  obtain ⟨p, q, hA0, hV0, rfl, hfz, hnd⟩ := hW
  have hA : DataW.TrodAll enc Tryd.prog W 0 (fun _ => true) true Tryd.f7.params.toList args.toList ds p := hA0
  have hV : DataW.TrodVars enc Tryd.prog W (fun _ => true) [] gs q := hV0
  rw [Tryd.params7] at hA hval
  obtain ⟨v0, v1, v2, d0, d1, d2, p0, p1, p2, rfl, rfl, rfl, h0, h1, h2⟩ := trodAll_three hA
  obtain ⟨rfl, rfl⟩ := trodVars_none hV
  obtain ⟨k, rfl, rfl, rfl, wk⟩ := open_int Tryd.underlying3 (hval 0 3 v0 rfl rfl) h0
  obtain ⟨a, b, rfl, rfl, rfl, wa, wb⟩ := pair_open Tryd.underlying25 one25 cells25 Tryd.underlying2 Tryd.underlying2 (hval 1 25 v1 rfl rfl) h1
  obtain ⟨c, d, rfl, rfl, rfl, wc, wd⟩ := pair_open Tryd.underlying25 one25 cells25 Tryd.underlying2 Tryd.underlying2 (hval 2 25 v2 rfl rfl) h2
  have hcall := calls_of_sem Tryd.func7 rfl (by kernel_rfl) (e7 [k, a, b, c, d] [1] W (if_pos ⟨wf64 wa, wf64 wb, wf64 wc, wf64 wd⟩) rfl (glob_of_laid hL))
  refine Calls.mono hcall fun e W' he => ?_
  cases e with
  | returned v =>
    obtain ⟨rfl, hb⟩ := he
    refine ⟨_, rfl, _, _, _, [], [], [], hW', ?_, ?_, ?_, World.keptBut_mono (fun _ h => h.elim) (keptBut_of_below hb), fun h => by cases h⟩
    · exact trodAll_mk1 (shut_bool Tryd.underlying4 true)
    · exact trodAll_mk3 (shut_int Tryd.underlying3 wk) (shut25 wa wb) (shut25 wc wd)
    · rfl
  | panicked _ => exact he.elim
  | outgrown => exact he.elim

theorem sets_holds : Rows.RangesSetsSaid :=
  OpenClaim.holds_of_wide 7 Tryd.f7 rfl rfl rfl rfl rfl rfl rfl ⟨rfl, rfl, rfl, rfl, rfl⟩ rfl rfl rfl rfl rfl (by kernel_rfl) Tryd.func7 (by kernel_rfl)
    (of_decide_eq_true (by kernel_rfl)) (by unfold Func.isWrapper; rw [if_neg (of_decide_eq_false (by kernel_rfl))]; exact ⟨rfl, rfl⟩)
    (fun os started H enc _ => sets_lifted os started H enc)

theorem sets_card : Rows.RangesSetsCardSaid :=
  Claim7.holds_tied_plain_at .later [] [.data, .data] true (true, "de87536829a3227c3e4862b1786049b911f607e593883a4a1c4be2254a7eb771") false
    sets_holds (fun _ h => by cases h) (by kernel_rfl) (fun _ h => by cases h) rangesSets_row_tie rfl ⟨rfl, rfl⟩ (by kernel_rfl) rfl
    (fun f fn hf hfn => by
      obtain rfl : f = 7 := Option.some.inj ((show Tryd.prog.funcNamed "cupel/cupellaw04.RangesSets" = some 7 by kernel_rfl).symm.trans hf) |>.symm
      obtain rfl : fn = Tryd.f7 := (Option.some.inj (Tryd.func7.symm.trans hfn)).symm
      exact ⟨by kernel_rfl, fun j t ht => by
        rw [Tryd.params7] at ht
        rcases j with _ | _ | _ | j
        · simp at ht; subst ht; exact (show Tryd.prog.wantsStandIn 3 = false by kernel_rfl)
        · simp at ht; subst ht; exact (show Tryd.prog.wantsStandIn 25 = false by kernel_rfl)
        · simp at ht; subst ht; exact (show Tryd.prog.wantsStandIn 25 = false by kernel_rfl)
        · simp at ht⟩)
    (by kernel_rfl)
end Go.SXR
namespace Go.Proofs.YtncaejnkpmmoeaaDoor
theorem ranges_sets_card : Rows.RangesSetsCardSaid := Go.SXR.sets_card
end Go.Proofs.YtncaejnkpmmoeaaDoor
#print axioms Go.Proofs.YtncaejnkpmmoeaaDoor.ranges_sets_card

/- Proved: the law cupellaw04.RangesAssume returns true for every operator, kind and two ranges, and leaves its arguments as they were (the tied card of its row).
   Conditions: the package variables ranges.full and ranges.none hold what the program's text lays (the card ties them); the law and what it calls are executed by the symbolic executor SX of these texts, whose soundness is proved in them. -/
import Derived.Test.YtncaejnkpmmoeaaDoorSxRC
import Derived.Test.YtncaejnkpmmoeaaDoorSxR4
set_option linter.unusedVariables false
set_option linter.unusedSimpArgs false
namespace Go.SXR
open Go Go.SX Go.Proofs Go.RowKit Go.ChangeShapes Go.WideShapes Go.Joins Go.Deep Go.Proofs.YtncaejnkpmmoeaaDoor Go.ChangeAt

def assumeLawS : List Int → Option (List Int)
  | [op, k, a, b, c, d] => if in4 a b c d then some [1] else none
  | _ => none
def sg3 : Sig := ⟨[(.agg [.int .i64, .int .i64]), (.agg [.int .i64, .int .i64]), (.agg [.int .i64, .int .i64])], [L]⟩
def t3 : T := (.call 10 [] 1 (.br (.cmp .eq (.v 6) (.n 0)) (.ret [(.n 0)]) (.call 11 [(.v 0), (.v 1), (.v 2), (.v 3), (.v 4), (.v 5), (.n 0)] 6 (.call 12 [(.v 0), (.v 1), (.v 2), (.v 3), (.v 4), (.v 5), (.n 0)] 6 (.br (.or (.or (.or (.not (.and (.cmp .eq (.v 7) (.v 13)) (.cmp .eq (.v 8) (.v 14)))) (.not (.and (.cmp .eq (.v 9) (.v 15)) (.cmp .eq (.v 10) (.v 16))))) (.not (.or (.and (.not (.cmp .eq (.v 11) (.n 0))) (.not (.cmp .eq (.v 17) (.n 0)))) (.and (.cmp .eq (.v 11) (.n 0)) (.cmp .eq (.v 17) (.n 0)))))) (.not (.cmp .eq (.v 12) (.v 18)))) (.ret [(.n 0)]) (.call 11 [(.v 0), (.v 1), (.v 2), (.v 3), (.v 4), (.v 5), (.n 1)] 6 (.call 12 [(.v 0), (.v 1), (.v 2), (.v 3), (.v 4), (.v 5), (.n 1)] 6 (.br (.or (.or (.or (.not (.and (.cmp .eq (.v 19) (.v 25)) (.cmp .eq (.v 20) (.v 26)))) (.not (.and (.cmp .eq (.v 21) (.v 27)) (.cmp .eq (.v 22) (.v 28))))) (.not (.or (.and (.not (.cmp .eq (.v 23) (.n 0))) (.not (.cmp .eq (.v 29) (.n 0)))) (.and (.cmp .eq (.v 23) (.n 0)) (.cmp .eq (.v 29) (.n 0)))))) (.not (.cmp .eq (.v 24) (.v 30)))) (.ret [(.n 0)]) (.ret [(.n 1)])))))))))
theorem q3 : sxFunc (Cf [p10, p11g, p12] unAll) 200 3 sg3 = t3 := by kernel_rfl
def p3 : Sp := (3, sg3, assumeLawS)
theorem e3 : Ent p3 := ent_of unAll (l := [p10, p11g, p12]) (ents_cons e10 (ents_cons e11g (ents_cons e12 ents_nil))) q3 fun args rs h hl => by
  match args, hl with
  | [op, k, a, b, c, d], _ =>
    simp only [assumeLawS] at h
    split at h
    · rename_i hr
      cases h
      refine ⟨0, ?_⟩
      have g10 : fOf [p10, p11g, p12] 10 = shownS := rfl
      have g11 : fOf [p10, p11g, p12] 11 = assumeS := rfl
      have g12 : fOf [p10, p11g, p12] 12 = assumeS := rfl
      obtain ⟨x0, x1, x2, x3, x4, x5, hx, hx4⟩ := assumeV_form op k a b c d 0
      obtain ⟨y0, y1, y2, y3, y4, y5, hy, hy4⟩ := assumeV_form op k a b c d 1
      have h0 : assumeS [op, k, a, b, c, d, 0] = some [x0, x1, x2, x3, x4, x5] := by rw [← hx]; exact if_pos ⟨hr, .inl rfl⟩
      have h1 : assumeS [op, k, a, b, c, d, 1] = some [y0, y1, y2, y3, y4, y5] := by rw [← hy]; exact if_pos ⟨hr, .inr rfl⟩
      rcases hx4 with rfl | rfl <;> rcases hy4 with rfl | rfl <;> simp [t3, T.den, B.den, A.den, E.den, Cm.den, g10, g11, g12, shownS, h0, h1]
    · cases h

theorem one23 : oneCellFields Tryd.prog #[{ name := "Op", type := 3, offset := 0, embedded := false, tag := "", pkgPath := "", byteOffset := 0 }, { name := "Kind", type := 3, offset := 1, embedded := false, tag := "", pkgPath := "", byteOffset := 8 }] = true := by kernel_rfl
theorem cells23 : Tryd.prog.cellsOf 23 = 2 := by kernel_rfl
set_option maxRecDepth 100000 in
theorem assume_lifted (os : Os) (started : os.Started) (H : Type) (enc : TypeId × Value → H) :
    ReturnsInHanded {} Tryd.checked os 3 .any (fun w args => (Rows.rangesAssumeSpec.pre enc Tryd.prog Tryd.f3 [] false w args ∧ laidMetH Tryd.prog laidL w) ∧ sizedMet enc Tryd.prog Tryd.f3 (OpenSpec.ofChange Rows.rangesAssumeSpec) false w args)
      (Rows.rangesAssumeSpec.post enc Tryd.prog Tryd.f3 false true false false) := by
  refine returnsInHanded_of_change_and (C := Tryd.checked) (X := fun w _ => laidMetH Tryd.prog laidL w) (fun _ _ _ hh h => h.of_heap hh) own started (by kernel_rfl) Tryd.func3
    (ChangeSpec.witness_at (enc := enc) (C := Tryd.checked) (os := os) (X := fun w _ => laidMetH Tryd.prog laidL w) false (laidWorld os) #[.agg #[.int .i64 0, .int .i64 0], .agg #[.int .i64 0, .int .i64 0], .agg #[.int .i64 0, .int .i64 0]] 8 rfl (by kernel_rfl) (by kernel_rfl) (by kernel_rfl) (by kernel_rfl) (by kernel_rfl) (laidWorld_met os _)) ?_
  intro W base args ds gs before hval0 hW _ _ hL _
  have hval : ∀ (j : Nat) t v, Tryd.f3.params[j]? = some t → args[j]? = some v → Value.okWide Tryd.prog W .any base t v := hval0
  have hW' := hW
  obtain ⟨p, q, hA0, hV0, rfl, hfz, hnd⟩ := hW
  have hA : DataW.TrodAll enc Tryd.prog W 0 (fun _ => true) true Tryd.f3.params.toList args.toList ds p := hA0
  have hV : DataW.TrodVars enc Tryd.prog W (fun _ => true) [] gs q := hV0
  rw [Tryd.params3] at hA hval
  obtain ⟨v0, v1, v2, d0, d1, d2, p0, p1, p2, rfl, rfl, rfl, h0, h1, h2⟩ := trodAll_three hA
  obtain ⟨rfl, rfl⟩ := trodVars_none hV
  obtain ⟨op, k, rfl, rfl, rfl, wo, wk⟩ := pair_open Tryd.underlying23 one23 cells23 Tryd.underlying3 Tryd.underlying3 (hval 0 23 v0 rfl rfl) h0
  obtain ⟨a, b, rfl, rfl, rfl, wa, wb⟩ := pair_open Tryd.underlying25 one25 cells25 Tryd.underlying2 Tryd.underlying2 (hval 1 25 v1 rfl rfl) h1
  obtain ⟨c, d, rfl, rfl, rfl, wc, wd⟩ := pair_open Tryd.underlying25 one25 cells25 Tryd.underlying2 Tryd.underlying2 (hval 2 25 v2 rfl rfl) h2
  have hcall := calls_of_sem Tryd.func3 rfl (by kernel_rfl) (e3 [op, k, a, b, c, d] [1] W (if_pos ⟨wf64 wa, wf64 wb, wf64 wc, wf64 wd⟩) rfl (glob_of_laid hL))
  refine Calls.mono hcall fun e W' he => ?_
  cases e with
  | returned v =>
    obtain ⟨rfl, hb⟩ := he
    refine ⟨_, rfl, _, _, _, [], [], [], hW', ?_, ?_, ?_, World.keptBut_mono (fun _ h => h.elim) (keptBut_of_below hb), fun h => by cases h⟩
    · exact trodAll_mk1 (shut_bool Tryd.underlying4 true)
    · exact trodAll_mk3 (pair_shut Tryd.underlying23 one23 cells23 Tryd.underlying3 Tryd.underlying3 wo wk) (shut25 wa wb) (shut25 wc wd)
    · rfl
  | panicked _ => exact he.elim
  | outgrown => exact he.elim

theorem assume_holds : Rows.RangesAssumeSaid :=
  OpenClaim.holds_of_wide 3 Tryd.f3 rfl rfl rfl rfl rfl rfl rfl ⟨rfl, rfl, rfl, rfl, rfl⟩ rfl rfl rfl rfl rfl (by kernel_rfl) Tryd.func3 (by kernel_rfl)
    (of_decide_eq_true (by kernel_rfl)) (by unfold Func.isWrapper; rw [if_neg (of_decide_eq_false (by kernel_rfl))]; exact ⟨rfl, rfl⟩)
    (fun os started H enc _ => assume_lifted os started H enc)

theorem assume_card : Rows.RangesAssumeCardSaid :=
  Claim7.holds_tied_plain_at .later [] [.data, .data] true (true, "de87536829a3227c3e4862b1786049b911f607e593883a4a1c4be2254a7eb771") false
    assume_holds (fun _ h => by cases h) (by kernel_rfl) (fun _ h => by cases h) rangesAssume_row_tie rfl ⟨rfl, rfl⟩ (by kernel_rfl) rfl
    (fun f fn hf hfn => by
      obtain rfl : f = 3 := Option.some.inj ((show Tryd.prog.funcNamed "cupel/cupellaw04.RangesAssume" = some 3 by kernel_rfl).symm.trans hf) |>.symm
      obtain rfl : fn = Tryd.f3 := (Option.some.inj (Tryd.func3.symm.trans hfn)).symm
      exact ⟨by kernel_rfl, fun j t ht => by
        rw [Tryd.params3] at ht
        rcases j with _ | _ | _ | j
        · simp at ht; subst ht; exact (show Tryd.prog.wantsStandIn 23 = false by kernel_rfl)
        · simp at ht; subst ht; exact (show Tryd.prog.wantsStandIn 25 = false by kernel_rfl)
        · simp at ht; subst ht; exact (show Tryd.prog.wantsStandIn 25 = false by kernel_rfl)
        · simp at ht⟩)
    (by kernel_rfl)
end Go.SXR
namespace Go.Proofs.YtncaejnkpmmoeaaDoor
theorem ranges_assume_card : Rows.RangesAssumeCardSaid := Go.SXR.assume_card
end Go.Proofs.YtncaejnkpmmoeaaDoor
#print axioms Go.Proofs.YtncaejnkpmmoeaaDoor.ranges_assume_card

/- Proved: the law cupellaw04.RangesLeft returns true for every operator, kind, two ranges and picked values, and leaves its arguments as they were (the tied card of its row).
   Conditions: the package variables ranges.full and ranges.none hold what the program's text lays (the card ties them); the law and what it calls are executed by the symbolic executor SX of these texts, whose soundness is proved in them. -/
import Derived.Test.YtncaejnkpmmoeaaDoorSxRL
import Derived.Test.YtncaejnkpmmoeaaDoorSxR5
set_option linter.unusedVariables false
set_option linter.unusedSimpArgs false
namespace Go.SXR
open Go Go.SX Go.Proofs Go.RowKit Go.ChangeShapes Go.WideShapes Go.Joins Go.Deep Go.Proofs.YtncaejnkpmmoeaaDoor Go.ChangeAt

theorem assume_law {op k a b c d t : Int} (hr : in4 a b c d) (ht : t = 0 ∨ t = 1) : ∃ x0 x1 x2 x3 x4 x5, assumeV op k a b c d t = [x0, x1, x2, x3, x4, x5] ∧
    ((x0 = 0 ∧ x1 = 0 ∧ x2 = 0 ∧ x3 = 0 ∧ x4 = 0 ∧ x5 = 2) ∨ (x5 = 0 ∧ a ≤ b ∧ c ≤ d ∧ (∀ m n, a ≤ m → m ≤ b → c ≤ n → n ≤ d → (holdsP op m n ↔ t = 1) → x4 = 1 ∧ x0 ≤ m ∧ m ≤ x1 ∧ x2 ≤ n ∧ n ≤ x3) ∧
      (x4 = 0 ∨ (a ≤ x0 ∧ x1 ≤ b ∧ x0 ≤ x1 ∧ c ≤ x2 ∧ x3 ≤ d ∧ x2 ≤ x3)))) := by
  unfold assumeV
  by_cases ha : aOk op k a b c d
  · rw [if_pos ha]
    obtain ⟨o1, o2, _, k1, k2⟩ := ha
    have h1 : a ≤ b := k1.2
    have h2 : c ≤ d := k2.2
    have heff : 11 ≤ (if t = 0 then opp op else op) ∧ (if t = 0 then opp op else op) ≤ 16 := by
      split
      · unfold opp; (repeat' split) <;> omega
      · omega
    obtain ⟨p, q, r, s, u, e, hu, hh, hi⟩ := leaves2 heff hr h1 h2
    have hiff : ∀ m n, (holdsP op m n ↔ t = 1) → holdsP (if t = 0 then opp op else op) m n := by
      intro m n hm
      rcases ht with rfl | rfl
      · rw [if_pos rfl, holds_opp ⟨o1, o2⟩]
        intro h; exact absurd (hm.1 h) (by decide)
      · rw [if_neg (by decide)]
        exact hm.2 rfl
    rw [e]
    rcases hu with rfl | rfl
    · refine ⟨0, 0, 0, 0, 0, 0, rfl, .inr ⟨rfl, h1, h2, fun m n g1 g2 g3 g4 g5 => ?_, .inl rfl⟩⟩
      have := (hh m n g1 g2 g3 g4 (hiff m n g5)).1
      cases this
    · exact ⟨p, q, r, s, 1, 0, rfl, .inr ⟨rfl, h1, h2, fun m n g1 g2 g3 g4 g5 => hh m n g1 g2 g3 g4 (hiff m n g5), .inr (hi rfl)⟩⟩
  · rw [if_neg ha]
    exact ⟨0, 0, 0, 0, 0, 2, rfl, .inl ⟨rfl, rfl, rfl, rfl, rfl, rfl⟩⟩



def leftLawS : List Int → Option (List Int)
  | [op, k, a, b, c, d, n, m] => if in4 a b c d ∧ inU n ∧ inU m then some [1] else none
  | _ => none
def sg4 : Sig := ⟨[(.agg [.int .i64, .int .i64]), (.agg [.int .i64, .int .i64, .int .i64, .int .i64]), (.agg [.int .u64, .int .u64])], [L]⟩
def t4 : T := (.call 10 [] 1 (.br (.cmp .eq (.v 8) (.n 0)) (.ret [(.n 0)]) (.call 11 [(.v 0), (.v 1), (.v 2), (.v 3), (.v 4), (.v 5), (.n 0)] 6 (.br (.not (.cmp .eq (.v 14) (.n 0))) (.lt (.sel (.and (.and (.and (.cmp .eq (.v 9) (.n 0)) (.cmp .eq (.v 10) (.n 0))) (.and (.cmp .eq (.v 11) (.n 0)) (.cmp .eq (.v 12) (.n 0)))) (.cmp .eq (.v 13) (.n 0))) (.n 1) (.n 0)) (.ret [(.v 15)])) (.call 13 [(.v 2), (.v 3), (.v 6)] 1 (.call 13 [(.v 4), (.v 5), (.v 7)] 1 (.call 14 [(.v 0), (.v 15), (.v 16)] 1 (.br (.and (.cmp .eq (.v 17) (.n 0)) (.or (.or (.or (.or (.cmp .eq (.v 13) (.n 0)) (.cmp .lt (.v 15) (.v 9))) (.cmp .lt (.v 10) (.v 15))) (.cmp .lt (.v 16) (.v 11))) (.cmp .lt (.v 12) (.v 16)))) (.ret [(.n 0)]) (.br (.and (.not (.cmp .eq (.v 13) (.n 0))) (.or (.or (.or (.or (.or (.cmp .lt (.v 9) (.v 2)) (.cmp .lt (.v 3) (.v 10))) (.cmp .lt (.v 10) (.v 9))) (.cmp .lt (.v 11) (.v 4))) (.cmp .lt (.v 5) (.v 12))) (.cmp .lt (.v 12) (.v 11)))) (.ret [(.n 0)]) (.call 11 [(.v 0), (.v 1), (.v 2), (.v 3), (.v 4), (.v 5), (.n 1)] 6 (.br (.not (.cmp .eq (.v 23) (.n 0))) (.lt (.sel (.and (.and (.and (.cmp .eq (.v 18) (.n 0)) (.cmp .eq (.v 19) (.n 0))) (.and (.cmp .eq (.v 20) (.n 0)) (.cmp .eq (.v 21) (.n 0)))) (.cmp .eq (.v 22) (.n 0))) (.n 1) (.n 0)) (.ret [(.v 24)])) (.call 13 [(.v 2), (.v 3), (.v 6)] 1 (.call 13 [(.v 4), (.v 5), (.v 7)] 1 (.call 14 [(.v 0), (.v 24), (.v 25)] 1 (.br (.and (.not (.cmp .eq (.v 26) (.n 0))) (.or (.or (.or (.or (.cmp .eq (.v 22) (.n 0)) (.cmp .lt (.v 24) (.v 18))) (.cmp .lt (.v 19) (.v 24))) (.cmp .lt (.v 25) (.v 20))) (.cmp .lt (.v 21) (.v 25)))) (.ret [(.n 0)]) (.br (.and (.not (.cmp .eq (.v 22) (.n 0))) (.or (.or (.or (.or (.or (.cmp .lt (.v 18) (.v 2)) (.cmp .lt (.v 3) (.v 19))) (.cmp .lt (.v 19) (.v 18))) (.cmp .lt (.v 20) (.v 4))) (.cmp .lt (.v 5) (.v 21))) (.cmp .lt (.v 21) (.v 20)))) (.ret [(.n 0)]) (.ret [(.n 1)])))))))))))))))))
theorem q4 : sxFunc (Cf [p10, p11g, p13, p14] unAll) 200 4 sg4 = t4 := by kernel_rfl
def p4 : Sp := (4, sg4, leftLawS)
theorem e4 : Ent p4 := ent_of unAll (l := [p10, p11g, p13, p14]) (ents_cons e10 (ents_cons e11g (ents_cons e13 (ents_cons e14 ents_nil)))) q4 fun args rs h hl => by
  match args, hl with
  | [op, k, a, b, c, d, n, m], _ =>
    simp only [leftLawS] at h
    split at h
    · rename_i hr
      cases h
      obtain ⟨hr, hn, hm⟩ := hr
      refine ⟨0, ?_⟩
      have g10 : fOf [p10, p11g, p13, p14] 10 = shownS := rfl
      have g11 : fOf [p10, p11g, p13, p14] 11 = assumeS := rfl
      have g13 : fOf [p10, p11g, p13, p14] 13 = pickS := rfl
      have g14 : fOf [p10, p11g, p13, p14] 14 = holdsS := rfl
      obtain ⟨x0, x1, x2, x3, x4, x5, hx, hX⟩ := assume_law (op := op) (k := k) (t := 0) hr (.inl rfl)
      obtain ⟨y0, y1, y2, y3, y4, y5, hy, hY⟩ := assume_law (op := op) (k := k) (t := 1) hr (.inr rfl)
      have h0 : assumeS [op, k, a, b, c, d, 0] = some [x0, x1, x2, x3, x4, x5] := by rw [← hx]; exact if_pos ⟨hr, .inl rfl⟩
      have h1 : assumeS [op, k, a, b, c, d, 1] = some [y0, y1, y2, y3, y4, y5] := by rw [← hy]; exact if_pos ⟨hr, .inr rfl⟩
      have k1 : pickS [a, b, n] = some [pickV a b n] := if_pos hn.1
      have k2 : pickS [c, d, m] = some [pickV c d m] := if_pos hm.1
      have k3 : holdsS [op, pickV a b n, pickV c d m] = some [if holdsP op (pickV a b n) (pickV c d m) then 1 else 0] := rfl
      rcases hX with ⟨rfl, rfl, rfl, rfl, rfl, rfl⟩ | ⟨rfl, o1, o2, hh, hi⟩
      · simp [t4, T.den, B.den, A.den, E.den, Cm.den, g10, g11, shownS, h0]
      · have q1 := pick_in hr.1 hr.2.1 o1 hn.1 hn.2
        have q2 := pick_in hr.2.2.1 hr.2.2.2 o2 hm.1 hm.2
        generalize pickV a b n = X at k1 k3 q1
        generalize pickV c d m = Y at k2 k3 q2
        have c1 : ¬ (¬ holdsP op X Y ∧ ((((x4 = 0 ∨ X < x0) ∨ x1 < X) ∨ Y < x2) ∨ x3 < Y)) := by
          rintro ⟨e1, e2⟩
          have := hh X Y q1.1 q1.2 q2.1 q2.2 ⟨fun h => absurd h e1, fun h => by cases h⟩
          omega
        have c2 : ¬ (¬ x4 = 0 ∧ (((((x0 < a ∨ b < x1) ∨ x1 < x0) ∨ x2 < c) ∨ d < x3) ∨ x3 < x2)) := by omega
        have r1 : (T.den (fOf [p10, p11g, p13, p14]) 0 t4 [op, k, a, b, c, d, n, m] = some (0, [1])) := by
          rcases hY with ⟨rfl, rfl, rfl, rfl, rfl, rfl⟩ | ⟨rfl, _, _, hh', hi'⟩
          · simp [t4, T.den, B.den, A.den, E.den, Cm.den, g10, g11, g13, g14, shownS, h0, h1, k1, k2, k3]
            rw [if_neg c1, if_neg c2]
          · have c3 : ¬ (holdsP op X Y ∧ ((((y4 = 0 ∨ X < y0) ∨ y1 < X) ∨ Y < y2) ∨ y3 < Y)) := by
              rintro ⟨e1, e2⟩
              have := hh' X Y q1.1 q1.2 q2.1 q2.2 ⟨fun _ => rfl, fun _ => e1⟩
              omega
            have c4 : ¬ (¬ y4 = 0 ∧ (((((y0 < a ∨ b < y1) ∨ y1 < y0) ∨ y2 < c) ∨ d < y3) ∨ y3 < y2)) := by omega
            simp [t4, T.den, B.den, A.den, E.den, Cm.den, g10, g11, g13, g14, shownS, h0, h1, k1, k2, k3]
            rw [if_neg c1, if_neg c2, if_neg c3, if_neg c4]
        exact r1
    · cases h

set_option maxRecDepth 100000 in
theorem left_lifted (os : Os) (started : os.Started) (H : Type) (enc : TypeId × Value → H) :
    ReturnsInHanded {} Tryd.checked os 4 .any (fun w args => (Rows.rangesLeftSpec.pre enc Tryd.prog Tryd.f4 [] false w args ∧ laidMetH Tryd.prog laidL w) ∧ sizedMet enc Tryd.prog Tryd.f4 (OpenSpec.ofChange Rows.rangesLeftSpec) false w args)
      (Rows.rangesLeftSpec.post enc Tryd.prog Tryd.f4 false true false false) := by
  refine returnsInHanded_of_change_and (C := Tryd.checked) (X := fun w _ => laidMetH Tryd.prog laidL w) (fun _ _ _ hh h => h.of_heap hh) own started (by kernel_rfl) Tryd.func4
    (ChangeSpec.witness_at (enc := enc) (C := Tryd.checked) (os := os) (X := fun w _ => laidMetH Tryd.prog laidL w) false (laidWorld os) #[.agg #[.int .i64 0, .int .i64 0], .agg #[.int .i64 0, .int .i64 0, .int .i64 0, .int .i64 0], .agg #[.int .u64 0, .int .u64 0]] 8 rfl (by kernel_rfl) (by kernel_rfl) (by kernel_rfl) (by kernel_rfl) (by kernel_rfl) (laidWorld_met os _)) ?_
  intro W base args ds gs before hval0 hW _ _ hL _
  have hval : ∀ (j : Nat) t v, Tryd.f4.params[j]? = some t → args[j]? = some v → Value.okWide Tryd.prog W .any base t v := hval0
  have hW' := hW
  obtain ⟨p, q, hA0, hV0, rfl, hfz, hnd⟩ := hW
  have hA : DataW.TrodAll enc Tryd.prog W 0 (fun _ => true) true Tryd.f4.params.toList args.toList ds p := hA0
  have hV : DataW.TrodVars enc Tryd.prog W (fun _ => true) [] gs q := hV0
  rw [Tryd.params4] at hA hval
  obtain ⟨v0, v1, v2, d0, d1, d2, p0, p1, p2, rfl, rfl, rfl, h0, h1, h2⟩ := trodAll_three hA
  obtain ⟨rfl, rfl⟩ := trodVars_none hV
  obtain ⟨op, k, rfl, rfl, rfl, wo, wk⟩ := pair_open Tryd.underlying23 one23 cells23 Tryd.underlying3 Tryd.underlying3 (hval 0 23 v0 rfl rfl) h0
  obtain ⟨a, b, c, d, rfl, rfl, rfl, wa, wb, wc, wd⟩ := open31 h1
  obtain ⟨n, m, rfl, rfl, rfl, wn, wm⟩ := pair_open Tryd.underlying34 one34 cells34 Tryd.underlying32 Tryd.underlying32 (hval 2 34 v2 rfl rfl) h2
  have hcall := calls_of_sem Tryd.func4 rfl (by kernel_rfl) (e4 [op, k, a, b, c, d, n, m] [1] W (if_pos ⟨⟨wf64 wa, wf64 wb, wf64 wc, wf64 wd⟩, wfU wn, wfU wm⟩) rfl (glob_of_laid hL))
  refine Calls.mono hcall fun e W' he => ?_
  cases e with
  | returned v =>
    obtain ⟨rfl, hb⟩ := he
    refine ⟨_, rfl, _, _, _, [], [], [], hW', ?_, ?_, ?_, World.keptBut_mono (fun _ h => h.elim) (keptBut_of_below hb), fun h => by cases h⟩
    · exact trodAll_mk1 (shut_bool Tryd.underlying4 true)
    · exact trodAll_mk3 (pair_shut Tryd.underlying23 one23 cells23 Tryd.underlying3 Tryd.underlying3 wo wk) (shut31 wa wb wc wd) (pair_shut Tryd.underlying34 one34 cells34 Tryd.underlying32 Tryd.underlying32 wn wm)
    · rfl
  | panicked _ => exact he.elim
  | outgrown => exact he.elim

theorem left_holds : Rows.RangesLeftSaid :=
  OpenClaim.holds_of_wide 4 Tryd.f4 rfl rfl rfl rfl rfl rfl rfl ⟨rfl, rfl, rfl, rfl, rfl⟩ rfl rfl rfl rfl rfl (by kernel_rfl) Tryd.func4 (by kernel_rfl)
    (of_decide_eq_true (by kernel_rfl)) (by unfold Func.isWrapper; rw [if_neg (of_decide_eq_false (by kernel_rfl))]; exact ⟨rfl, rfl⟩)
    (fun os started H enc _ => left_lifted os started H enc)

theorem left_card : Rows.RangesLeftCardSaid :=
  Claim7.holds_tied_plain_at .later [] [.data, .data] true (true, "de87536829a3227c3e4862b1786049b911f607e593883a4a1c4be2254a7eb771") false
    left_holds (fun _ h => by cases h) (by kernel_rfl) (fun _ h => by cases h) rangesLeft_row_tie rfl ⟨rfl, rfl⟩ (by kernel_rfl) rfl
    (fun f fn hf hfn => by
      obtain rfl : f = 4 := Option.some.inj ((show Tryd.prog.funcNamed "cupel/cupellaw04.RangesLeft" = some 4 by kernel_rfl).symm.trans hf) |>.symm
      obtain rfl : fn = Tryd.f4 := (Option.some.inj (Tryd.func4.symm.trans hfn)).symm
      exact ⟨by kernel_rfl, fun j t ht => by
        rw [Tryd.params4] at ht
        rcases j with _ | _ | _ | j
        · simp at ht; subst ht; exact (show Tryd.prog.wantsStandIn 23 = false by kernel_rfl)
        · simp at ht; subst ht; exact (show Tryd.prog.wantsStandIn 31 = false by kernel_rfl)
        · simp at ht; subst ht; exact (show Tryd.prog.wantsStandIn 34 = false by kernel_rfl)
        · simp at ht⟩)
    (by kernel_rfl)
end Go.SXR
namespace Go.Proofs.YtncaejnkpmmoeaaDoor
theorem ranges_left_card : Rows.RangesLeftCardSaid := Go.SXR.left_card
end Go.Proofs.YtncaejnkpmmoeaaDoor
#print axioms Go.Proofs.YtncaejnkpmmoeaaDoor.ranges_left_card

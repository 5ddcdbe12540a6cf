/- Proved: the law cupellaw04.RangesContain returns true for every operator, kind, two ranges and picked values, and leaves its arguments as they were (the tied card of its row).
   Conditions: the package variables ranges.full and ranges.none hold what the program's text lays (the card ties them); the law and what it calls are executed by the symbolic executor SX of these texts, whose soundness is proved in them. -/
import Derived.Test.YtncaejnkpmmoeaaDoorSxD1
import Derived.Test.YtncaejnkpmmoeaaDoorSxD4
import Derived.Test.YtncaejnkpmmoeaaDoorSxB4
import Derived.Test.YtncaejnkpmmoeaaDoorSxRS
import Derived.Test.YtncaejnkpmmoeaaDoorSxU6
set_option linter.unusedVariables false
set_option linter.unusedSimpArgs false
namespace Go.SXR
open Go Go.SX Go.Proofs Go.RowKit Go.ChangeShapes Go.WideShapes Go.Joins Go.Deep Go.Proofs.YtncaejnkpmmoeaaDoor Go.ChangeAt

def kindS : List Int → Option (List Int)
  | [op, k] => some [kOf op k]
  | _ => none
def sg18 : Sig := ⟨[(.agg [.int .i64, .int .i64])], [I]⟩
def t18 : T := (.br (.not (.cmp .lt (.v 0) (.n 11))) (.ret [(.n 3)]) (.ret [(.v 1)]))
theorem q18 : sxFunc (Cf [] unAll) 200 18 sg18 = t18 := by kernel_rfl
def p18 : Sp := (18, sg18, kindS)
theorem e18 : Ent p18 := ent_of unAll (l := []) ents_nil q18 fun args rs h hl => by
  match args, hl with
  | [op, k], _ =>
    simp only [kindS] at h
    cases h
    refine ⟨0, ?_⟩
    unfold kOf
    by_cases c : 11 ≤ op
    · simp [t18, T.den, B.den, A.den, E.den, Cm.den, c, show ¬ op < 11 by omega]
    · simp [t18, T.den, B.den, A.den, E.den, Cm.den, c, show op < 11 by omega]
def containLawS : List Int → Option (List Int)
  | [op, k, a, b, c, d, n, m] => if in4 a b c d ∧ inU n ∧ inU m then some [1] else none
  | _ => none
def sg5 : Sig := ⟨[(.agg [.int .i64, .int .i64]), (.agg [.int .i64, .int .i64, .int .i64, .int .i64]), (.agg [.int .u64, .int .u64])], [L]⟩
def t5 : T := (.call 10 [] 1 (.br (.cmp .eq (.v 8) (.n 0)) (.ret [(.n 0)]) (.call 15 [(.v 0), (.v 1), (.v 2), (.v 3), (.v 4), (.v 5)] 6 (.br (.not (.cmp .eq (.v 14) (.n 0))) (.lt (.sel (.and (.and (.cmp .eq (.v 9) (.n 0)) (.cmp .eq (.v 10) (.n 0))) (.and (.cmp .eq (.v 11) (.n 0)) (.and (.cmp .eq (.v 12) (.n 0)) (.cmp .eq (.v 13) (.n 0))))) (.n 1) (.n 0)) (.ret [(.v 15)])) (.call 13 [(.v 2), (.v 3), (.v 6)] 1 (.call 13 [(.v 4), (.v 5), (.v 7)] 1 (.call 16 [(.v 0), (.v 1), (.v 15), (.v 16)] 3 (.br (.or (.and (.not (.cmp .eq (.v 18) (.n 0))) (.cmp .eq (.v 12) (.n 0))) (.and (.not (.cmp .eq (.v 19) (.n 0))) (.cmp .eq (.v 13) (.n 0)))) (.ret [(.n 0)]) (.br (.and (.and (.cmp .eq (.v 18) (.n 0)) (.cmp .eq (.v 19) (.n 0))) (.or (.or (.cmp .eq (.v 11) (.n 0)) (.cmp .lt (.v 17) (.v 9))) (.cmp .lt (.v 10) (.v 17)))) (.ret [(.n 0)]) (.call 16 [(.v 0), (.v 1), (.v 2), (.v 4)] 3 (.br (.or (.and (.not (.cmp .eq (.v 21) (.n 0))) (.cmp .eq (.v 12) (.n 0))) (.and (.not (.cmp .eq (.v 22) (.n 0))) (.cmp .eq (.v 13) (.n 0)))) (.ret [(.n 0)]) (.br (.and (.and (.cmp .eq (.v 21) (.n 0)) (.cmp .eq (.v 22) (.n 0))) (.or (.or (.cmp .eq (.v 11) (.n 0)) (.cmp .lt (.v 20) (.v 9))) (.cmp .lt (.v 10) (.v 20)))) (.ret [(.n 0)]) (.call 16 [(.v 0), (.v 1), (.v 2), (.v 5)] 3 (.br (.or (.and (.not (.cmp .eq (.v 24) (.n 0))) (.cmp .eq (.v 12) (.n 0))) (.and (.not (.cmp .eq (.v 25) (.n 0))) (.cmp .eq (.v 13) (.n 0)))) (.ret [(.n 0)]) (.br (.and (.and (.cmp .eq (.v 24) (.n 0)) (.cmp .eq (.v 25) (.n 0))) (.or (.or (.cmp .eq (.v 11) (.n 0)) (.cmp .lt (.v 23) (.v 9))) (.cmp .lt (.v 10) (.v 23)))) (.ret [(.n 0)]) (.call 16 [(.v 0), (.v 1), (.v 3), (.v 4)] 3 (.br (.or (.and (.not (.cmp .eq (.v 27) (.n 0))) (.cmp .eq (.v 12) (.n 0))) (.and (.not (.cmp .eq (.v 28) (.n 0))) (.cmp .eq (.v 13) (.n 0)))) (.ret [(.n 0)]) (.br (.and (.and (.cmp .eq (.v 27) (.n 0)) (.cmp .eq (.v 28) (.n 0))) (.or (.or (.cmp .eq (.v 11) (.n 0)) (.cmp .lt (.v 26) (.v 9))) (.cmp .lt (.v 10) (.v 26)))) (.ret [(.n 0)]) (.call 16 [(.v 0), (.v 1), (.v 3), (.v 5)] 3 (.br (.or (.and (.not (.cmp .eq (.v 30) (.n 0))) (.cmp .eq (.v 12) (.n 0))) (.and (.not (.cmp .eq (.v 31) (.n 0))) (.cmp .eq (.v 13) (.n 0)))) (.ret [(.n 0)]) (.br (.and (.and (.cmp .eq (.v 30) (.n 0)) (.cmp .eq (.v 31) (.n 0))) (.or (.or (.cmp .eq (.v 11) (.n 0)) (.cmp .lt (.v 29) (.v 9))) (.cmp .lt (.v 10) (.v 29)))) (.ret [(.n 0)]) (.br (.not (.cmp .eq (.v 11) (.n 0))) (.call 18 [(.v 0), (.v 1)] 1 (.call 17 [(.v 32), (.v 9), (.v 10)] 1 (.lt (.sel (.or (.cmp .eq (.v 11) (.n 0)) (.cmp .eq (.v 33) (.n 0))) (.n 1) (.n 0)) (.ret [(.v 34)])))) (.ret [(.n 1)])))))))))))))))))))))))
theorem q5 : sxFunc (Cf [p10, p15g, p13, p16, p17, p18] unAll) 200 5 sg5 = t5 := by kernel_rfl
/-- What is asked of a pair. -/
theorem pair_ask {F : Nat → List Int → Option (List Int)} {op k a b c d L H s t u v w : Int} (g16 : F 16 = doneS) (h4 : in4 a b c d) (hok : okB op k a b c d) (W : Within op k a b c d L H s t u) (hb : Box a b c d v w) :
    ∃ n T U, F 16 [op, k, v, w] = some [n, T, U] ∧ (((¬ T = 0 ∧ t = 0) ∨ (¬ U = 0 ∧ u = 0)) = False) ∧ (((T = 0 ∧ U = 0) ∧ ((s = 0 ∨ n < L) ∨ H < n)) = False) := by
  have hv : inI v ∧ inI w := by
    obtain ⟨ha, hb', hc, hd⟩ := h4
    unfold Box at hb
    unfold inI at *
    omega
  refine ⟨_, _, _, by rw [g16]; exact if_pos ⟨hv.1, hv.2, hok.1⟩, eq_false ?_, eq_false ?_⟩
  · rintro (⟨h1, h2⟩ | ⟨h1, h2⟩)
    · by_cases q : trapD op w
      · have := W.trap v w hb q; omega
      · rw [if_neg q] at h1; exact h1 rfl
    · by_cases q : undD op k v w
      · have := W.und v w hb q; omega
      · rw [if_neg q] at h1; exact h1 rfl
  · rintro ⟨⟨h1, h2⟩, h3⟩
    have q1 : ¬ trapD op w := by intro q; rw [if_pos q] at h1; cases h1
    have q2 : ¬ undD op k v w := by intro q; rw [if_pos q] at h2; cases h2
    have := W.inn v w ⟨hb, q1, q2⟩
    omega
theorem c5 {F : Nat → List Int → Option (List Int)} {op k a b c d n m : Int} (g10 : F 10 = shownS) (g15 : F 15 = binS) (g13 : F 13 = pickS) (g16 : F 16 = doneS) (g17 : F 17 = checkS) (g18 : F 18 = kindS) (h4 : in4 a b c d) (hn : inU n) (hm : inU m) : t5.den F 0 [op, k, a, b, c, d, n, m] = some (0, [1]) := by
  have f10 : F 10 [] = some [1] := by rw [g10]; rfl
  have f15 : F 15 [op, k, a, b, c, d] = some (binR op k a b c d) := by rw [g15]; exact if_pos h4
  by_cases hok : okB op k a b c d
  · obtain ⟨L, H, s, t, u, W⟩ := within_all h4 hok
    have hr := rng_all h4 hok W.eq
    rw [binR_ok hok, W.eq] at f15
    have hab := hok.2.1.2
    have hcd := hok.2.2.2
    have k1 : F 13 [a, b, n] = some [pickV a b n] := by rw [g13]; exact if_pos hn.1
    have k2 : F 13 [c, d, m] = some [pickV c d m] := by rw [g13]; exact if_pos hm.1
    have p1 := pick_in h4.1 h4.2.1 hab hn.1 hn.2
    have p2 := pick_in h4.2.2.1 h4.2.2.2 hcd hm.1 hm.2
    generalize pickV a b n = V at k1 p1
    generalize pickV c d m = X at k2 p2
    obtain ⟨n0, T0, U0, a0, b0, c0⟩ := pair_ask g16 h4 hok W (show Box a b c d V X from ⟨p1, p2⟩)
    obtain ⟨n1, T1, U1, a1, b1, c1⟩ := pair_ask g16 h4 hok W (show Box a b c d a c by unfold Box; omega)
    obtain ⟨n2, T2, U2, a2, b2, c2⟩ := pair_ask g16 h4 hok W (show Box a b c d a d by unfold Box; omega)
    obtain ⟨n3, T3, U3, a3, b3, c3⟩ := pair_ask g16 h4 hok W (show Box a b c d b c by unfold Box; omega)
    obtain ⟨n4, T4, U4, a4, b4, c4⟩ := pair_ask g16 h4 hok W (show Box a b c d b d by unfold Box; omega)
    have f18 : F 18 [op, k] = some [kOf op k] := by rw [g18]; rfl
    simp only [t5, T.den, B.den, A.den, E.den, Cm.den, List.map, List.getD_cons_zero, List.getD_cons_succ, List.cons_append, List.nil_append, Bool.or_eq_true, Bool.and_eq_true, Bool.not_eq_true', decide_eq_true_eq, decide_eq_false_iff_not, beq_iff_eq, beq_eq_false_iff_ne, ne_eq, f10, f15, f18, k1, k2, a0, a1, a2, a3, a4, b0, b1, b2, b3, b4, c0, c1, c2, c3, c4, List.length_cons, List.length_nil, Nat.zero_add, Nat.reduceAdd, if_true, if_false, show ¬ (1 : Int) = 0 from by decide, not_true_eq_false]
    by_cases hs : s = 0
    · rw [if_neg (fun q => q hs)]
    · have hs1 : s = 1 := by rcases W.bits.1 with q | q; exact absurd q hs; exact q
      have f17 : F 17 [kOf op k, L, H] = some [0] := by
        have e : checkE (kOf op k) L H = 0 := if_pos (W.kind hs1)
        rw [g17, ← e]; exact if_pos hr
      rw [if_pos hs]
      simp only [f17, List.length_cons, List.length_nil, Nat.zero_add, Nat.reduceAdd, if_true, T.den, B.den, A.den, E.den, Cm.den, List.map, List.getD_cons_zero, List.getD_cons_succ, List.cons_append, List.nil_append, Bool.or_eq_true, Bool.and_eq_true, Bool.not_eq_true', decide_eq_true_eq, decide_eq_false_iff_not, beq_iff_eq, beq_eq_false_iff_ne, ne_eq, or_true]
  · rw [binR_no hok] at f15
    simp [t5, T.den, B.den, A.den, E.den, Cm.den, f10, f15]
noncomputable def p5 : Sp := (5, sg5, containLawS)
theorem e5 : Ent p5 := ent_of unAll (l := [p10, p15g, p13, p16, p17, p18]) (ents_cons e10 (ents_cons e15g (ents_cons e13 (ents_cons e16 (ents_cons e17 (ents_cons e18 ents_nil)))))) q5 fun args rs h hl => by
  match args, hl with
  | [op, k, a, b, c, d, n, m], _ =>
    simp only [containLawS] at h
    split at h
    · rename_i hr
      cases h
      exact ⟨0, c5 rfl rfl rfl rfl rfl rfl hr.1 hr.2.1 hr.2.2⟩
    · cases h

set_option maxRecDepth 100000 in
theorem contain_lifted (os : Os) (started : os.Started) (H : Type) (enc : TypeId × Value → H) :
    ReturnsInHanded {} Tryd.checked os 5 .any (fun w args => (Rows.rangesContainSpec.pre enc Tryd.prog Tryd.f5 [] false w args ∧ laidMetH Tryd.prog laidL w) ∧ sizedMet enc Tryd.prog Tryd.f5 (OpenSpec.ofChange Rows.rangesContainSpec) false w args)
      (Rows.rangesContainSpec.post enc Tryd.prog Tryd.f5 false true false false) := by
  refine returnsInHanded_of_change_and (C := Tryd.checked) (X := fun w _ => laidMetH Tryd.prog laidL w) (fun _ _ _ hh h => h.of_heap hh) own started (by kernel_rfl) Tryd.func5
    (ChangeSpec.witness_at (enc := enc) (C := Tryd.checked) (os := os) (X := fun w _ => laidMetH Tryd.prog laidL w) false (laidWorld os) #[.agg #[.int .i64 0, .int .i64 0], .agg #[.int .i64 0, .int .i64 0, .int .i64 0, .int .i64 0], .agg #[.int .u64 0, .int .u64 0]] 8 rfl (by kernel_rfl) (by kernel_rfl) (by kernel_rfl) (by kernel_rfl) (by kernel_rfl) (laidWorld_met os _)) ?_
  intro W base args ds gs before hval0 hW _ _ hL _
  have hval : ∀ (j : Nat) t v, Tryd.f5.params[j]? = some t → args[j]? = some v → Value.okWide Tryd.prog W .any base t v := hval0
  have hW' := hW
  obtain ⟨p, q, hA0, hV0, rfl, hfz, hnd⟩ := hW
  have hA : DataW.TrodAll enc Tryd.prog W 0 (fun _ => true) true Tryd.f5.params.toList args.toList ds p := hA0
  have hV : DataW.TrodVars enc Tryd.prog W (fun _ => true) [] gs q := hV0
  rw [Tryd.params5] at hA hval
  obtain ⟨v0, v1, v2, d0, d1, d2, p0, p1, p2, rfl, rfl, rfl, h0, h1, h2⟩ := trodAll_three hA
  obtain ⟨rfl, rfl⟩ := trodVars_none hV
  obtain ⟨op, k, rfl, rfl, rfl, wo, wk⟩ := pair_open Tryd.underlying23 one23 cells23 Tryd.underlying3 Tryd.underlying3 (hval 0 23 v0 rfl rfl) h0
  obtain ⟨a, b, c, d, rfl, rfl, rfl, wa, wb, wc, wd⟩ := open31 h1
  obtain ⟨n, m, rfl, rfl, rfl, wn, wm⟩ := pair_open Tryd.underlying34 one34 cells34 Tryd.underlying32 Tryd.underlying32 (hval 2 34 v2 rfl rfl) h2
  have hcall := calls_of_sem Tryd.func5 rfl (by kernel_rfl) (e5 [op, k, a, b, c, d, n, m] [1] W (if_pos ⟨⟨wf64 wa, wf64 wb, wf64 wc, wf64 wd⟩, wfU wn, wfU wm⟩) rfl (glob_of_laid hL))
  refine Calls.mono hcall fun e W' he => ?_
  cases e with
  | returned v =>
    obtain ⟨rfl, hb⟩ := he
    refine ⟨_, rfl, _, _, _, [], [], [], hW', ?_, ?_, ?_, World.keptBut_mono (fun _ h => h.elim) (keptBut_of_below hb), fun h => by cases h⟩
    · exact trodAll_mk1 (shut_bool Tryd.underlying4 true)
    · exact trodAll_mk3 (pair_shut Tryd.underlying23 one23 cells23 Tryd.underlying3 Tryd.underlying3 wo wk) (shut31 wa wb wc wd) (pair_shut Tryd.underlying34 one34 cells34 Tryd.underlying32 Tryd.underlying32 wn wm)
    · rfl
  | panicked _ => exact he.elim
  | outgrown => exact he.elim

theorem contain_holds : Rows.RangesContainSaid :=
  OpenClaim.holds_of_wide 5 Tryd.f5 rfl rfl rfl rfl rfl rfl rfl ⟨rfl, rfl, rfl, rfl, rfl⟩ rfl rfl rfl rfl rfl (by kernel_rfl) Tryd.func5 (by kernel_rfl)
    (of_decide_eq_true (by kernel_rfl)) (by unfold Func.isWrapper; rw [if_neg (of_decide_eq_false (by kernel_rfl))]; exact ⟨rfl, rfl⟩)
    (fun os started H enc _ => contain_lifted os started H enc)

theorem contain_card : Rows.RangesContainCardSaid :=
  Claim7.holds_tied_plain_at .later [] [.data, .data] true (true, "de87536829a3227c3e4862b1786049b911f607e593883a4a1c4be2254a7eb771") false
    contain_holds (fun _ h => by cases h) (by kernel_rfl) (fun _ h => by cases h) rangesContain_row_tie rfl ⟨rfl, rfl⟩ (by kernel_rfl) rfl
    (fun f fn hf hfn => by
      obtain rfl : f = 5 := Option.some.inj ((show Tryd.prog.funcNamed "cupel/cupellaw04.RangesContain" = some 5 by kernel_rfl).symm.trans hf) |>.symm
      obtain rfl : fn = Tryd.f5 := (Option.some.inj (Tryd.func5.symm.trans hfn)).symm
      exact ⟨by kernel_rfl, fun j t ht => by
        rw [Tryd.params5] at ht
        rcases j with _ | _ | _ | j
        · simp at ht; subst ht; exact (show Tryd.prog.wantsStandIn 23 = false by kernel_rfl)
        · simp at ht; subst ht; exact (show Tryd.prog.wantsStandIn 31 = false by kernel_rfl)
        · simp at ht; subst ht; exact (show Tryd.prog.wantsStandIn 34 = false by kernel_rfl)
        · simp at ht⟩)
    (by kernel_rfl)
end Go.SXR
namespace Go.Proofs.YtncaejnkpmmoeaaDoor
theorem ranges_contain_card : Rows.RangesContainCardSaid := Go.SXR.contain_card
end Go.Proofs.YtncaejnkpmmoeaaDoor
#print axioms Go.Proofs.YtncaejnkpmmoeaaDoor.ranges_contain_card

/- Proved: the law cupellaw03.SemAgrees returns true for every two behaviours, and leaves its arguments as they were (the tied card of its row).
   Conditions: the package variables that the row lists hold what the program's text lays (the card ties them); the law and what it calls are executed by the symbolic executor SY of these texts, whose soundness is proved in them. -/
import Derived.Test.YtolebnomgllgaaaGreatDoorSgC
import Derived.Test.YtolebnomgllgaaaGreatDoorSgD
import Derived.Test.YtolebnomgllgaaaGreatDoorSgF
set_option linter.unusedVariables false
set_option linter.unusedSimpArgs false
namespace Go.SYG
open Go Go.SY Go.Proofs Go.RowKit Go.ChangeShapes Go.Proofs.YtolebnomgllgaaaGreatDoor Go.ChangeAt
noncomputable section
def cs10 : Ct := (10, 10, g10.2.2, s0)
def k4 : Ct := (4, 4, gA, trueS)
def l4 : List Ct := [c11, c12, cs10]
def u4 : T := (.br (.or (.cmp .lt (.n 5000) (.len (.fld (.v 0) 0))) (.cmp .lt (.n 5000) (.len (.fld (.v 1) 0)))) (.call 10 [] [] (.ret 0 [(.d (.tru true))]) [] (.fail 345)) (.call 11 [(.v 0), (.v 1)] [4] (.call 12 [(.v 0), (.v 1)] [4] (.br (.or (.and (.is (.v 2)) (.is (.v 3))) (.and (.not (.is (.v 2))) (.not (.is (.v 3))))) (.call 11 [(.v 1), (.v 0)] [4] (.call 11 [(.v 0), (.v 1)] [4] (.br (.and (.or (.and (.is (.v 2)) (.is (.v 3))) (.and (.not (.is (.v 2))) (.not (.is (.v 3))))) (.or (.and (.is (.v 4)) (.is (.v 5))) (.and (.not (.is (.v 4))) (.not (.is (.v 5)))))) (.call 11 [(.v 0), (.v 0)] [4] (.br (.and (.and (.or (.and (.is (.v 2)) (.is (.v 3))) (.and (.not (.is (.v 2))) (.not (.is (.v 3))))) (.or (.and (.is (.v 4)) (.is (.v 5))) (.and (.not (.is (.v 4))) (.not (.is (.v 5)))))) (.is (.v 6))) (.call 10 [] [] (.lt none (.boo (.and (.and (.or (.and (.is (.v 2)) (.is (.v 3))) (.and (.not (.is (.v 2))) (.not (.is (.v 3))))) (.or (.and (.is (.v 4)) (.is (.v 5))) (.and (.not (.is (.v 4))) (.not (.is (.v 5)))))) (.is (.v 6)))) (.ret 0 [(.v 7)])) [] (.fail 345)) (.ret 0 [(.d (.tru false))])) [] (.fail 345)) (.ret 0 [(.d (.tru false))])) [] (.fail 345)) [] (.fail 345)) (.ret 0 [(.d (.tru false))])) [] (.fail 345)) [] (.fail 345)))
theorem qu4 : sxFunc (Xl l4) 400 4 gA = u4 := by kernel_rfl
theorem w4 {a b : Dt} {Q : Post} (ha : (a.fld 0).isSl) (hb : (b.fld 0).isSl) (hq : Q 0 [.tru true]) : u4.wp ty (fOf l4) [a, b] Q := by
  have h11 : fOf l4 11 = fun is Q => Q 0 [.tru (agI (arg is 0) (arg is 1))] := rfl
  have h12 : fOf l4 12 = fun is Q => Q 0 [.tru (agR (arg is 0) (arg is 1))] := rfl
  have h10 : fOf l4 10 = fun is Q => is = [] ∧ Q 0 [] := rfl
  unfold u4
  simp only [wp_br', wp_ret, wp_lt, wp_call, wp_fail, h11, h12, h10, B.den, Cm.den, A.int, A.den, E.den, int_num, bool_tru, arg, tyO, true_implies, List.cons_append, List.nil_append, List.getD_cons_zero, List.getD_cons_succ, List.map_cons, List.map_nil, if_true, Int.toNat_natCast, Int.toNat_zero]
  rw [← agI_comm ha hb, ← agI_eq ha hb, agI_self]
  generalize agI a b = p1
  generalize decide ((5000 : Int) < _) = p2
  generalize decide ((5000 : Int) < _) = p3
  clear h10 h11 h12
  cases p1 <;> simp_all [hasTyL] <;> exact ⟨fun _ => hq, by intros; exact hq⟩
theorem k4_ok : Ent X k4 := ent_of XOk (l := l4) rfl (ents_cons e11 (ents_cons e12 (ents_cons e10 ents_nil))) qu4 sF_mono fun is Q h hq => by
  obtain ⟨x, y, rfl, hx, hy⟩ := ty2 h
  obtain ⟨l, rfl, hl⟩ := tup_of td33 hx
  obtain ⟨m, rfl, hm⟩ := tup_of td33 hy
  refine w4 ?_ ?_ hq
  · match l, hl with
    | x :: _, hl =>
      simp only [hasTyF, Bool.and_eq_true] at hl
      exact (sl_of td31 hl.1).1
  · match m, hm with
    | x :: _, hm =>
      simp only [hasTyF, Bool.and_eq_true] at hm
      exact (sl_of td31 hm.1).1
set_option maxRecDepth 100000 in
theorem agrees_lifted (os : Os) (started : os.Started) (H : Type) (enc : TypeId × Value → H) :
    ReturnsInHanded {} Tryz.checked os 4 .any (fun w args => (Rows.semAgreesSpec.pre enc Tryz.prog Tryz.f4 [] false w args ∧ laidMetH Tryz.prog laidL w) ∧ sizedMet enc Tryz.prog Tryz.f4 (OpenSpec.ofChange Rows.semAgreesSpec) false w args)
      (Rows.semAgreesSpec.post enc Tryz.prog Tryz.f4 false true false false) := by
  refine returnsInHanded_of_change_and (C := Tryz.checked) (X := fun w _ => laidMetH Tryz.prog laidL w) (fun _ _ _ hh h => h.of_heap hh) own started (by kernel_rfl) Tryz.func4
    (ChangeSpec.witness_shaped (enc := enc) (C := Tryz.checked) (os := os) (X := fun w _ => laidMetH Tryz.prog laidL w) false (laidWorld os) #[.agg #[.slice none 0 0, .int .i64 0, .int .i64 0], .agg #[.slice none 0 0, .int .i64 0, .int .i64 0]] 8 rfl (World.shaped_of_RefB (by kernel_rfl) (by kernel_rfl)) (by kernel_rfl) (by kernel_rfl) (by kernel_rfl) (laidWorld_met os _)) ?_
  intro W base args ds gs before hval hW _ _ hL _
  exact law_callsW XOk dD_ok kids full Tryz.func4 rfl (by kernel_rfl) (by kernel_rfl) (by kernel_rfl) (by kernel_rfl) Tryz.underlying4 td4 ag4 rfl (fun ds h => by
    obtain ⟨a, b, rfl⟩ := len2 (h.trans (by kernel_rfl))
    rfl) k4_ok W (gOk hL) base args ds gs before hval hW
theorem agrees_holds : Rows.SemAgreesSaid :=
  OpenClaim.holds_of_wide 4 Tryz.f4 rfl rfl rfl rfl rfl rfl rfl ⟨rfl, rfl, rfl, rfl, rfl⟩ rfl rfl rfl rfl rfl (by kernel_rfl) Tryz.func4 ja
    (of_decide_eq_true (by kernel_rfl)) (by unfold Func.isWrapper; rw [if_neg (of_decide_eq_false (by kernel_rfl))]; exact ⟨rfl, rfl⟩)
    (fun os started H enc _ => agrees_lifted os started H enc)
theorem agrees_looks : ∀ (f : FuncId) (fn : Func), Tryz.pinned.checked.prog.funcNamed Rows.semAgreesRow.func = some f → Tryz.pinned.checked.prog.funcs[f]? = some fn → true = Tryz.pinned.checked.prog.looks [] ∧ ∀ (j : Nat) t, fn.params[j]? = some t → Tryz.pinned.checked.prog.wantsStandIn t = false :=
  fun f fn hf hfn => by
    obtain rfl : f = 4 := Option.some.inj (jc3.symm.trans hf) |>.symm
    obtain rfl : fn = Tryz.f4 := (Option.some.inj (Tryz.func4.symm.trans hfn)).symm
    exact ⟨jc2, fun j t ht => by
      rw [jc4] at ht
      rcases j with _ | _ | j
      · simp at ht; subst ht; exact jc5
      · simp at ht; subst ht; exact jc5
      · simp at ht⟩
theorem agrees_card : Rows.SemAgreesCardSaid :=
  Claim7.holds_tied_plain_at .later [] [.widerDeep, .data, .data, .data, .data] true (true, "a6d93bb8c9e01336e2f6505376c796ab2a96dd497432187cac32f7916423d991") true
    agrees_holds (fun _ h => by cases h) jc6 (fun _ h => by cases h) semAgrees_row_tie rfl ⟨rfl, rfl⟩ jc1 rfl agrees_looks jc7
end
end Go.SYG
namespace Go.Proofs.YtolebnomgllgaaaGreatDoor
theorem sem_agrees_card : Rows.SemAgreesCardSaid := Go.SYG.agrees_card
end Go.Proofs.YtolebnomgllgaaaGreatDoor
#print axioms Go.Proofs.YtolebnomgllgaaaGreatDoor.sem_agrees_card

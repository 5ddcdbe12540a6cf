/- Proved: the law cupellaw03.SemOperates returns true for every operator, kind and two values, and leaves its argument as it was (the tied card of its row).
   Conditions: the package variables that the row lists hold what the program's text lays (the card ties them); the law and what it calls are executed by the symbolic executor SY of these texts, whose soundness is proved in them. -/
import Derived.Test.YtolebnomgllgaaaGreatDoorSgC
import Derived.Test.YtolebnomgllgaaaGreatDoorSgO2
import Derived.Test.YtolebnomgllgaaaGreatDoorSgJ2
set_option linter.unusedVariables false
set_option linter.unusedSimpArgs false
namespace Go.SYG
open Go Go.SY Go.Proofs Go.RowKit Go.ChangeShapes Go.Proofs.YtolebnomgllgaaaGreatDoor Go.ChangeAt
noncomputable section
theorem td23 : tdOf ty 23 = .struct [(3, 0, 1), (3, 1, 1), (2, 2, 1), (2, 3, 1)] true := by kernel_rfl
def gO : Sig := ⟨[.dat 23], [], ⟨[.dat 4], []⟩, none⟩
def cs10 : Ct := (10, 10, g10.2.2, s0)
def k3 : Ct := (3, 3, gO, trueS)
def l3 : List Ct := [c6, c7, c8, c9, cs10]
def u3 : T := (.call 6 [(.fld (.v 0) 0), (.fld (.v 0) 1), (.fld (.v 0) 2)] [2, 24] (.call 7 [(.fld (.v 0) 0), (.fld (.v 0) 1), (.fld (.v 0) 2)] [2, 24] (.call 8 [(.fld (.v 0) 0), (.fld (.v 0) 1), (.fld (.v 0) 2), (.fld (.v 0) 3)] [2, 3, 3, 24] (.call 9 [(.fld (.v 0) 0), (.fld (.v 0) 1), (.fld (.v 0) 2), (.fld (.v 0) 3)] [2, 3, 3, 24] (.br (.and (.and (.and (.and (.and (.cmp .eq (.v 1) (.v 3)) (.cmp .eq (.v 2) (.v 4))) (.cmp .eq (.v 5) (.v 9))) (.cmp .eq (.v 6) (.v 10))) (.cmp .eq (.v 7) (.v 11))) (.cmp .eq (.v 8) (.v 12))) (.call 10 [] [] (.lt none (.boo (.and (.and (.and (.and (.and (.cmp .eq (.v 1) (.v 3)) (.cmp .eq (.v 2) (.v 4))) (.cmp .eq (.v 5) (.v 9))) (.cmp .eq (.v 6) (.v 10))) (.cmp .eq (.v 7) (.v 11))) (.cmp .eq (.v 8) (.v 12)))) (.ret 0 [(.v 13)])) [] (.fail 345)) (.ret 0 [(.d (.tru false))])) [] (.fail 345)) [] (.fail 345)) [] (.fail 345)) [] (.fail 345))
theorem qu3 : sxFunc (Xl l3) 400 3 gO = u3 := by kernel_rfl
theorem unI_two (op k a : Int) : ∃ p q, unI op k a = [.num p, .num q] := by
  unfold unI
  split
  · split
    · exact ⟨_, _, rfl⟩
    · split <;> exact ⟨_, _, rfl⟩
  · exact ⟨_, _, rfl⟩
theorem four_ite {c : Prop} [Decidable c] {x y : List Dt} (hx : ∃ p q r s, x = [.num p, .num q, .num r, .num s]) (hy : ∃ p q r s, y = [.num p, .num q, .num r, .num s]) : ∃ p q r s, (if c then x else y) = [.num p, .num q, .num r, .num s] := by
  by_cases h : c
  · rw [if_pos h]; exact hx
  · rw [if_neg h]; exact hy
theorem binI_four (op k a b : Int) : ∃ p q r s, binI op k a b = [.num p, .num q, .num r, .num s] := by
  unfold binI binV rI
  repeat' first | exact ⟨_, _, _, _, rfl⟩ | refine four_ite ?_ ?_
theorem w3 {op k a b : Int} {Q : Post} (hq : Q 0 [.tru true]) : u3.wp ty (fOf l3) [.tup [.num op, .num k, .num a, .num b]] Q := by
  have h6 : fOf l3 6 = fun is Q => Q 0 (unI (arg is 0).int (arg is 1).int (arg is 2).int) := rfl
  have h7 : fOf l3 7 = fun is Q => Q 0 (unI (arg is 0).int (arg is 1).int (arg is 2).int) := rfl
  have h8 : fOf l3 8 = fun is Q => Q 0 (binI (arg is 0).int (arg is 1).int (arg is 2).int (arg is 3).int) := rfl
  have h9 : fOf l3 9 = fun is Q => Q 0 (binI (arg is 0).int (arg is 1).int (arg is 2).int (arg is 3).int) := rfl
  have h10 : fOf l3 10 = fun is Q => is = [] ∧ Q 0 [] := rfl
  obtain ⟨p1, p2, hu⟩ := unI_two op k a
  obtain ⟨q1, q2, q3, q4, hb⟩ := binI_four op k a b
  unfold u3
  simp [wp_br, SY.wp_ret, wp_lt, wp_call, wp_fail, h6, h7, h8, h9, h10, hu, hb, fld_tup, B.den, Cm.den, A.int, A.den, E.den, int_num, bool_tru, arg, tyO, true_implies, List.cons_append, List.nil_append, List.getD_cons_zero, List.getD_cons_succ, List.map_cons, List.map_nil, if_true, Int.toNat_natCast, Int.toNat_zero]
  intros
  exact hq
theorem k3_ok : Ent X k3 := ent_of XOk (l := l3) rfl (ents_cons e6 (ents_cons e7 (ents_cons e8 (ents_cons e9 (ents_cons e10 ents_nil))))) qu3 sF_mono fun is Q h hq => by
  obtain ⟨x, rfl, hx⟩ := ty1 h
  obtain ⟨l, rfl, hl⟩ := tup_of td23 hx
  match l, hl with
  | [op, k, a, b], hl =>
    simp only [hasTyF, Bool.and_eq_true] at hl
    obtain ⟨op, rfl, -⟩ := num_of td3 hl.1
    obtain ⟨k, rfl, -⟩ := num_of td3 hl.2.1
    obtain ⟨a, rfl, -⟩ := num_of td2 hl.2.2.1
    obtain ⟨b, rfl, -⟩ := num_of td2 hl.2.2.2.1
    exact w3 hq
  | [], hl => simp [hasTyF] at hl
  | [_], hl => simp [hasTyF] at hl
  | [_, _], hl => simp [hasTyF] at hl
  | [_, _, _], hl => simp [hasTyF] at hl
  | _ :: _ :: _ :: _ :: _ :: _, hl => simp [hasTyF] at hl
set_option maxRecDepth 100000 in
theorem operates_lifted (os : Os) (started : os.Started) (H : Type) (enc : TypeId × Value → H) :
    ReturnsInHanded {} Tryz.checked os 3 .any (fun w args => (Rows.semOperatesSpec.pre enc Tryz.prog Tryz.f3 [] false w args ∧ laidMetH Tryz.prog laidL w) ∧ sizedMet enc Tryz.prog Tryz.f3 (OpenSpec.ofChange Rows.semOperatesSpec) false w args)
      (Rows.semOperatesSpec.post enc Tryz.prog Tryz.f3 false true false false) := by
  refine returnsInHanded_of_change_and (C := Tryz.checked) (X := fun w _ => laidMetH Tryz.prog laidL w) (fun _ _ _ hh h => h.of_heap hh) own started (by kernel_rfl) Tryz.func3
    (ChangeSpec.witness_shaped (enc := enc) (C := Tryz.checked) (os := os) (X := fun w _ => laidMetH Tryz.prog laidL w) false (laidWorld os) #[.agg #[.int .i64 0, .int .i64 0, .int .i64 0, .int .i64 0]] 8 rfl (World.shaped_of_RefB (by kernel_rfl) (by kernel_rfl)) (by kernel_rfl) (by kernel_rfl) (by kernel_rfl) (laidWorld_met os _)) ?_
  intro W base args ds gs before hval hW _ _ hL _
  exact law_callsW XOk dD_ok kids full Tryz.func3 rfl (by kernel_rfl) (by kernel_rfl) (by kernel_rfl) (by kernel_rfl) Tryz.underlying4 td4 ag4 rfl (fun ds h => by
    obtain ⟨a, rfl⟩ := len1 (h.trans (by kernel_rfl))
    rfl) k3_ok W (gOk hL) base args ds gs before hval hW
theorem operates_holds : Rows.SemOperatesSaid :=
  OpenClaim.holds_of_wide 3 Tryz.f3 rfl rfl rfl rfl rfl rfl rfl ⟨rfl, rfl, rfl, rfl, rfl⟩ rfl rfl rfl rfl rfl (by kernel_rfl) Tryz.func3 jo
    (of_decide_eq_true (by kernel_rfl)) (by unfold Func.isWrapper; rw [if_neg (of_decide_eq_false (by kernel_rfl))]; exact ⟨rfl, rfl⟩)
    (fun os started H enc _ => operates_lifted os started H enc)
theorem operates_looks : ∀ (f : FuncId) (fn : Func), Tryz.pinned.checked.prog.funcNamed Rows.semOperatesRow.func = some f → Tryz.pinned.checked.prog.funcs[f]? = some fn → true = Tryz.pinned.checked.prog.looks [] ∧ ∀ (j : Nat) t, fn.params[j]? = some t → Tryz.pinned.checked.prog.wantsStandIn t = false :=
  fun f fn hf hfn => by
    obtain rfl : f = 3 := Option.some.inj (jp3.symm.trans hf) |>.symm
    obtain rfl : fn = Tryz.f3 := (Option.some.inj (Tryz.func3.symm.trans hfn)).symm
    exact ⟨jc2, fun j t ht => by
      rw [jp4] at ht
      rcases j with _ | j
      · simp at ht; subst ht; exact jp5
      · simp at ht⟩
theorem operates_card : Rows.SemOperatesCardSaid :=
  Claim7.holds_tied_plain_at .later [] [.widerDeep, .data, .data, .data, .data] true (true, "a6d93bb8c9e01336e2f6505376c796ab2a96dd497432187cac32f7916423d991") true
    operates_holds (fun _ h => by cases h) jp6 (fun _ h => by cases h) semOperates_row_tie rfl ⟨rfl, rfl⟩ jc1 rfl operates_looks jp7
end
end Go.SYG
namespace Go.Proofs.YtolebnomgllgaaaGreatDoor
theorem sem_operates_card : Rows.SemOperatesCardSaid := Go.SYG.operates_card
end Go.Proofs.YtolebnomgllgaaaGreatDoor
#print axioms Go.Proofs.YtolebnomgllgaaaGreatDoor.sem_operates_card

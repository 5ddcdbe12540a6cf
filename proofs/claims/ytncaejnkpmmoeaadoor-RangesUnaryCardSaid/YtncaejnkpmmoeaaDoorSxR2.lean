/- RANGES: Full, Check, Join, Meet, of the program and of the reference. -/
import Derived.Test.YtncaejnkpmmoeaaDoorSxR1
set_option linter.unusedVariables false
set_option linter.unusedSimpArgs false
namespace Go.SXR
open Go Go.SX Go.Proofs Go.RowKit

/-! ### Full -/
def fullL (k : Int) : Int := if k = 1 then -9223372036854775808 else 0
def fullH (k : Int) : Int := if k = 1 then 9223372036854775807 else if k = 2 then 255 else if k = 3 then 1 else 0
def kindE (k : Int) : Int := if k = 1 ∨ k = 2 ∨ k = 3 then 0 else 2
def fullS : List Int → Option (List Int)
  | [k] => some [fullL k, fullH k, kindE k]
  | _ => none

def sg20 : Sig := ⟨[I], [(.agg [.int .i64, .int .i64]), I]⟩
def t20 : T := (.br (.or (.cmp .lt (.v 0) (.n 1)) (.cmp .lt (.n 3) (.v 0))) (.ret [(.n 0), (.n 0), (.n 2)]) (.br (.cmp .eq (.v 0) (.n 0)) (.ret [(.n 0), (.n 0), (.n 0)]) (.br (.cmp .eq (.v 0) (.n 1)) (.ret [(.n (-9223372036854775808)), (.n 9223372036854775807), (.n 0)]) (.br (.cmp .eq (.v 0) (.n 2)) (.ret [(.n 0), (.n 255), (.n 0)]) (.br (.cmp .eq (.v 0) (.n 3)) (.ret [(.n 0), (.n 1), (.n 0)]) (.fail 106))))))
theorem q20 : sxFunc (Cf [] unAll) 200 20 sg20 = t20 := by kernel_rfl
def p20 : Sp := (20, sg20, fullS)
theorem e20 : Ent p20 := ent_of unAll (l := []) ents_nil q20 fun args rs h hl => by
  match args, hl with
  | [k], _ =>
    simp only [fullS] at h; cases h
    refine ⟨0, ?_⟩
    simp only [t20, T.den, B.den, A.den, E.den, Cm.den, List.map, List.getD_cons_zero, List.getD_cons_succ, List.cons_append, List.nil_append, Bool.or_eq_true, Bool.and_eq_true, Bool.not_eq_true', decide_eq_true_eq, decide_eq_false_iff_not, beq_iff_eq]
    unfold fullL fullH kindE
    repeat' split
    all_goals first | rfl | (exfalso; omega) | (simp only [Option.some.injEq, Prod.mk.injEq, List.cons.injEq, and_true, true_and]; omega)

def sg21 : Sig := ⟨[I], [(.agg [.int .i64, .int .i64]), I]⟩
def t21 : T := (.br (.cmp .eq (.v 0) (.n 1)) (.ret [(.n (-9223372036854775808)), (.n 9223372036854775807), (.n 0)]) (.br (.cmp .eq (.v 0) (.n 2)) (.ret [(.n 0), (.n 255), (.n 0)]) (.br (.cmp .eq (.v 0) (.n 3)) (.ret [(.n 0), (.n 1), (.n 0)]) (.ret [(.n 0), (.n 0), (.n 2)]))))
theorem q21 : sxFunc (Cf [] unAll) 200 21 sg21 = t21 := by kernel_rfl
def p21 : Sp := (21, sg21, fullS)
theorem e21 : Ent p21 := ent_of unAll (l := []) ents_nil q21 fun args rs h hl => by
  match args, hl with
  | [k], _ =>
    simp only [fullS] at h; cases h
    refine ⟨0, ?_⟩
    simp only [t21, T.den, B.den, A.den, E.den, Cm.den, List.map, List.getD_cons_zero, List.getD_cons_succ, List.cons_append, List.nil_append, Bool.or_eq_true, Bool.and_eq_true, Bool.not_eq_true', decide_eq_true_eq, decide_eq_false_iff_not, beq_iff_eq]
    unfold fullL fullH kindE
    repeat' split
    all_goals first | rfl | (exfalso; omega) | (simp only [Option.some.injEq, Prod.mk.injEq, List.cons.injEq, and_true, true_and]; omega)

/-! ### Check -/
def okR (k l h : Int) : Prop := (k = 1 ∨ (k = 2 ∧ 0 ≤ l ∧ h ≤ 255) ∨ (k = 3 ∧ 0 ≤ l ∧ h ≤ 1)) ∧ l ≤ h
instance (k l h : Int) : Decidable (okR k l h) := by unfold okR; infer_instance
def checkE (k l h : Int) : Int := if okR k l h then 0 else 2
def checkS : List Int → Option (List Int)
  | [k, l, h] => if inI l ∧ inI h then some [checkE k l h] else none
  | _ => none

def sg17 : Sig := ⟨[I, (.agg [.int .i64, .int .i64])], [I]⟩
def t17 : T := (.br (.or (.cmp .lt (.v 0) (.n 1)) (.cmp .lt (.n 3) (.v 0))) (.br (.or (.or (.cmp .lt (.v 2) (.v 1)) (.cmp .lt (.v 1) (.n 0))) (.cmp .lt (.n 0) (.v 2))) (.ret [(.n 2)]) (.ret [(.n 2)])) (.br (.cmp .eq (.v 0) (.n 0)) (.br (.or (.or (.cmp .lt (.v 2) (.v 1)) (.cmp .lt (.v 1) (.n 0))) (.cmp .lt (.n 0) (.v 2))) (.ret [(.n 2)]) (.ret [(.n 0)])) (.br (.cmp .eq (.v 0) (.n 1)) (.br (.or (.or (.cmp .lt (.v 2) (.v 1)) (.cmp .lt (.v 1) (.n (-9223372036854775808)))) (.cmp .lt (.n 9223372036854775807) (.v 2))) (.ret [(.n 2)]) (.ret [(.n 0)])) (.br (.cmp .eq (.v 0) (.n 2)) (.br (.or (.or (.cmp .lt (.v 2) (.v 1)) (.cmp .lt (.v 1) (.n 0))) (.cmp .lt (.n 255) (.v 2))) (.ret [(.n 2)]) (.ret [(.n 0)])) (.br (.cmp .eq (.v 0) (.n 3)) (.br (.or (.or (.cmp .lt (.v 2) (.v 1)) (.cmp .lt (.v 1) (.n 0))) (.cmp .lt (.n 1) (.v 2))) (.ret [(.n 2)]) (.ret [(.n 0)])) (.fail 106))))))
theorem q17 : sxFunc (Cf [] unAll) 200 17 sg17 = t17 := by kernel_rfl
def p17 : Sp := (17, sg17, checkS)
theorem e17 : Ent p17 := ent_of unAll (l := []) ents_nil q17 fun args rs h hl => by
  match args, hl with
  | [k, l, u], _ =>
    simp only [checkS] at h
    split at h
    · rename_i hr
      cases h
      refine ⟨0, ?_⟩
      simp only [t17, T.den, B.den, A.den, E.den, Cm.den, List.map, List.getD_cons_zero, List.getD_cons_succ, List.cons_append, List.nil_append, Bool.or_eq_true, Bool.and_eq_true, Bool.not_eq_true', decide_eq_true_eq, decide_eq_false_iff_not, beq_iff_eq]
      unfold checkE okR
      unfold inI at hr
      repeat' split
      all_goals first | rfl | (exfalso; omega) | (simp only [Option.some.injEq, Prod.mk.injEq, List.cons.injEq, and_true, true_and]; omega)
    · cases h

def sg22 : Sig := ⟨[I, (.agg [.int .i64, .int .i64])], [I]⟩
def t22 : T := (.br (.cmp .eq (.v 0) (.n 1)) (.br (.or (.or (.cmp .lt (.v 2) (.v 1)) (.cmp .lt (.v 1) (.n (-9223372036854775808)))) (.cmp .lt (.n 9223372036854775807) (.v 2))) (.ret [(.n 2)]) (.ret [(.n 0)])) (.br (.cmp .eq (.v 0) (.n 2)) (.br (.or (.or (.cmp .lt (.v 2) (.v 1)) (.cmp .lt (.v 1) (.n 0))) (.cmp .lt (.n 255) (.v 2))) (.ret [(.n 2)]) (.ret [(.n 0)])) (.br (.cmp .eq (.v 0) (.n 3)) (.br (.or (.or (.cmp .lt (.v 2) (.v 1)) (.cmp .lt (.v 1) (.n 0))) (.cmp .lt (.n 1) (.v 2))) (.ret [(.n 2)]) (.ret [(.n 0)])) (.ret [(.n 2)]))))
theorem q22 : sxFunc (Cf [] unAll) 200 22 sg22 = t22 := by kernel_rfl
def p22 : Sp := (22, sg22, checkS)
theorem e22 : Ent p22 := ent_of unAll (l := []) ents_nil q22 fun args rs h hl => by
  match args, hl with
  | [k, l, u], _ =>
    simp only [checkS] at h
    split at h
    · rename_i hr
      cases h
      refine ⟨0, ?_⟩
      simp only [t22, T.den, B.den, A.den, E.den, Cm.den, List.map, List.getD_cons_zero, List.getD_cons_succ, List.cons_append, List.nil_append, Bool.or_eq_true, Bool.and_eq_true, Bool.not_eq_true', decide_eq_true_eq, decide_eq_false_iff_not, beq_iff_eq]
      unfold checkE okR
      unfold inI at hr
      repeat' split
      all_goals first | rfl | (exfalso; omega) | (simp only [Option.some.injEq, Prod.mk.injEq, List.cons.injEq, and_true, true_and]; omega)
    · cases h

/-! ### Join, Meet -/
def in4 (a b c d : Int) : Prop := inI a ∧ inI b ∧ inI c ∧ inI d
instance (a b c d : Int) : Decidable (in4 a b c d) := by unfold in4; infer_instance
def joinL (a b c d : Int) : Int := if b < a ∨ d < c then 0 else min a c
def joinH (a b c d : Int) : Int := if b < a ∨ d < c then 0 else max b d
def pairE (a b c d : Int) : Int := if b < a ∨ d < c then 2 else 0
def joinS : List Int → Option (List Int)
  | [a, b, c, d] => if in4 a b c d then some [joinL a b c d, joinH a b c d, pairE a b c d] else none
  | _ => none
def meetB (a b c d : Int) : Int := if b < a ∨ d < c ∨ min b d < max a c then 0 else 1
def meetL (a b c d : Int) : Int := if b < a ∨ d < c ∨ min b d < max a c then 0 else max a c
def meetH (a b c d : Int) : Int := if b < a ∨ d < c ∨ min b d < max a c then 0 else min b d
def meetS : List Int → Option (List Int)
  | [a, b, c, d] => if in4 a b c d then some [meetL a b c d, meetH a b c d, meetB a b c d, pairE a b c d] else none
  | _ => none

def sg19 : Sig := ⟨[(.agg [.int .i64, .int .i64]), (.agg [.int .i64, .int .i64])], [(.agg [.int .i64, .int .i64]), I]⟩
def t19 : T := (.br (.or (.or (.cmp .lt (.v 1) (.v 0)) (.cmp .lt (.v 0) (.n (-9223372036854775808)))) (.cmp .lt (.n 9223372036854775807) (.v 1))) (.ret [(.n 0), (.n 0), (.n 2)]) (.br (.or (.or (.cmp .lt (.v 3) (.v 2)) (.cmp .lt (.v 2) (.n (-9223372036854775808)))) (.cmp .lt (.n 9223372036854775807) (.v 3))) (.ret [(.n 0), (.n 0), (.n 2)]) (.lt (.mn (.v 0) (.v 1)) (.lt (.mx (.v 0) (.v 1)) (.lt (.mn (.v 4) (.v 2)) (.lt (.mx (.v 5) (.v 2)) (.lt (.mn (.v 6) (.v 3)) (.lt (.mx (.v 7) (.v 3)) (.ret [(.v 8), (.v 9), (.n 0)])))))))))
theorem q19 : sxFunc (Cf [] unAll) 200 19 sg19 = t19 := by kernel_rfl
def p19 : Sp := (19, sg19, joinS)
theorem e19 : Ent p19 := ent_of unAll (l := []) ents_nil q19 fun args rs h hl => by
  match args, hl with
  | [a, b, c, d], _ =>
    simp only [joinS] at h
    split at h
    · rename_i hr
      cases h
      refine ⟨0, ?_⟩
      simp only [t19, T.den, B.den, A.den, E.den, Cm.den, List.map, List.getD_cons_zero, List.getD_cons_succ, List.cons_append, List.nil_append, Bool.or_eq_true, Bool.and_eq_true, Bool.not_eq_true', decide_eq_true_eq, decide_eq_false_iff_not, beq_iff_eq]
      unfold joinL joinH pairE
      unfold in4 inI at hr
      repeat' split
      all_goals first | rfl | (exfalso; omega) | (simp only [Option.some.injEq, Prod.mk.injEq, List.cons.injEq, and_true, true_and]; omega)
    · cases h

def sg23 : Sig := ⟨[(.agg [.int .i64, .int .i64]), (.agg [.int .i64, .int .i64])], [(.agg [.int .i64, .int .i64]), I]⟩
def t23 : T := (.br (.or (.cmp .lt (.v 1) (.v 0)) (.cmp .lt (.v 3) (.v 2))) (.ret [(.n 0), (.n 0), (.n 2)]) (.lt (.mn (.v 0) (.v 2)) (.lt (.mx (.v 1) (.v 3)) (.ret [(.v 4), (.v 5), (.n 0)]))))
theorem q23 : sxFunc (Cf [] unAll) 200 23 sg23 = t23 := by kernel_rfl
def p23 : Sp := (23, sg23, joinS)
theorem e23 : Ent p23 := ent_of unAll (l := []) ents_nil q23 fun args rs h hl => by
  match args, hl with
  | [a, b, c, d], _ =>
    simp only [joinS] at h
    split at h
    · rename_i hr
      cases h
      refine ⟨0, ?_⟩
      simp only [t23, T.den, B.den, A.den, E.den, Cm.den, List.map, List.getD_cons_zero, List.getD_cons_succ, List.cons_append, List.nil_append, Bool.or_eq_true, Bool.and_eq_true, Bool.not_eq_true', decide_eq_true_eq, decide_eq_false_iff_not, beq_iff_eq]
      unfold joinL joinH pairE
      unfold in4 inI at hr
      repeat' split
      all_goals first | rfl | (exfalso; omega) | (simp only [Option.some.injEq, Prod.mk.injEq, List.cons.injEq, and_true, true_and]; omega)
    · cases h

def sg24 : Sig := ⟨[(.agg [.int .i64, .int .i64]), (.agg [.int .i64, .int .i64])], [(.agg [.int .i64, .int .i64]), L, I]⟩
def t24 : T := (.br (.or (.or (.cmp .lt (.v 1) (.v 0)) (.cmp .lt (.v 0) (.n (-9223372036854775808)))) (.cmp .lt (.n 9223372036854775807) (.v 1))) (.ret [(.n 0), (.n 0), (.n 0), (.n 2)]) (.br (.or (.or (.cmp .lt (.v 3) (.v 2)) (.cmp .lt (.v 2) (.n (-9223372036854775808)))) (.cmp .lt (.n 9223372036854775807) (.v 3))) (.ret [(.n 0), (.n 0), (.n 0), (.n 2)]) (.lt (.mx (.v 0) (.v 2)) (.lt (.mn (.v 1) (.v 3)) (.br (.cmp .lt (.v 5) (.v 4)) (.ret [(.n 0), (.n 0), (.n 0), (.n 0)]) (.ret [(.v 4), (.v 5), (.n 1), (.n 0)]))))))
theorem q24 : sxFunc (Cf [] unAll) 200 24 sg24 = t24 := by kernel_rfl
def p24 : Sp := (24, sg24, meetS)
theorem e24 : Ent p24 := ent_of unAll (l := []) ents_nil q24 fun args rs h hl => by
  match args, hl with
  | [a, b, c, d], _ =>
    simp only [meetS] at h
    split at h
    · rename_i hr
      cases h
      refine ⟨0, ?_⟩
      simp only [t24, T.den, B.den, A.den, E.den, Cm.den, List.map, List.getD_cons_zero, List.getD_cons_succ, List.cons_append, List.nil_append, Bool.or_eq_true, Bool.and_eq_true, Bool.not_eq_true', decide_eq_true_eq, decide_eq_false_iff_not, beq_iff_eq]
      unfold meetL meetH meetB pairE
      unfold in4 inI at hr
      repeat' split
      all_goals first | rfl | (exfalso; omega) | (simp only [Option.some.injEq, Prod.mk.injEq, List.cons.injEq, and_true, true_and]; omega)
    · cases h

def sg25 : Sig := ⟨[(.agg [.int .i64, .int .i64]), (.agg [.int .i64, .int .i64])], [(.agg [.int .i64, .int .i64]), L, I]⟩
def t25 : T := (.br (.or (.cmp .lt (.v 1) (.v 0)) (.cmp .lt (.v 3) (.v 2))) (.ret [(.n 0), (.n 0), (.n 0), (.n 2)]) (.lt (.mx (.v 0) (.v 2)) (.lt (.mn (.v 1) (.v 3)) (.br (.cmp .lt (.v 5) (.v 4)) (.ret [(.n 0), (.n 0), (.n 0), (.n 0)]) (.ret [(.v 4), (.v 5), (.n 1), (.n 0)])))))
theorem q25 : sxFunc (Cf [] unAll) 200 25 sg25 = t25 := by kernel_rfl
def p25 : Sp := (25, sg25, meetS)
theorem e25 : Ent p25 := ent_of unAll (l := []) ents_nil q25 fun args rs h hl => by
  match args, hl with
  | [a, b, c, d], _ =>
    simp only [meetS] at h
    split at h
    · rename_i hr
      cases h
      refine ⟨0, ?_⟩
      simp only [t25, T.den, B.den, A.den, E.den, Cm.den, List.map, List.getD_cons_zero, List.getD_cons_succ, List.cons_append, List.nil_append, Bool.or_eq_true, Bool.and_eq_true, Bool.not_eq_true', decide_eq_true_eq, decide_eq_false_iff_not, beq_iff_eq]
      unfold meetL meetH meetB pairE
      unfold in4 inI at hr
      repeat' split
      all_goals first | rfl | (exfalso; omega) | (simp only [Option.some.injEq, Prod.mk.injEq, List.cons.injEq, and_true, true_and]; omega)
    · cases h

end Go.SXR

/- RANGES: Assume, of the program and of the reference. -/
import Derived.Test.YtncaejnkpmmoeaaDoorSxU5
set_option linter.unusedVariables false
set_option linter.unusedSimpArgs false
namespace Go.SXR
open Go Go.SX Go.Proofs Go.RowKit

def w64 (n : Int) : Int := if n % 18446744073709551616 < 9223372036854775808 then n % 18446744073709551616 else n % 18446744073709551616 - 18446744073709551616
theorem wrap64 (n : Int) : IntKind.wrap .i64 n = w64 n := by
  unfold w64 IntKind.wrap
  simp only [IntKind.bits, IntKind.signed]
  have e1 : (2 : Int) ^ 64 = 18446744073709551616 := by decide
  have e2 : (2 : Int) ^ (64 - 1) = 9223372036854775808 := by decide
  simp only [e1, e2, Bool.true_and, decide_eq_true_eq, ge_iff_le]
  split <;> split <;> omega
theorem mn_eq (x y : Int) : (if y < x then y else x) = min x y := by omega
theorem mx_eq (x y : Int) : (if y > x then y else x) = max x y := by omega
theorem w64_id {n : Int} (h : inI n) : w64 n = n := by unfold inI at h; unfold w64; omega

/-! ### What the parts answer -/
def wl (a b c d : Int) : Int := if c = d then (if a = c ∧ b = d then 1 else if a = c then w64 (a + 1) else a) else a
def wh (a b c d : Int) : Int := if c = d then (if a = c ∧ b = d then 0 else if a = c then b else if b = c then w64 (b - 1) else b) else b
def withoutS : List Int → Option (List Int)
  | [a, b, c, d] => if in4 a b c d then some [wl a b c d, wh a b c d] else none
  | _ => none
def meet3S : List Int → Option (List Int)
  | [a, b, c, d] => some [if min b d < max a c then 0 else max a c, if min b d < max a c then 0 else min b d, if min b d < max a c then 0 else 1]
  | _ => none
def no (a d : Int) : Prop := d = -9223372036854775808 ∨ a = 9223372036854775807
instance (a d : Int) : Decidable (no a d) := by unfold no; infer_instance
def lessS : List Int → Option (List Int)
  | [a, b, c, d] => some [if no a d then 1 else a, if no a d then 0 else min b (w64 (d - 1)), if no a d then 1 else max (w64 (a + 1)) c, if no a d then 0 else d]
  | _ => none
def mostS : List Int → Option (List Int)
  | [a, b, c, d] => some [a, min b d, max a c, d]
  | _ => none
def sg32 : Sig := ⟨[(.agg [.int .i64, .int .i64]), (.agg [.int .i64, .int .i64])], [(.agg [.int .i64, .int .i64]), L]⟩
def t32 : T := (.lt (.mx (.v 0) (.v 2)) (.lt (.mn (.v 1) (.v 3)) (.br (.cmp .lt (.v 5) (.v 4)) (.ret [(.n 0), (.n 0), (.n 0)]) (.ret [(.v 4), (.v 5), (.n 1)]))))
theorem q32 : sxFunc (Cf [] unAll) 200 32 sg32 = t32 := by kernel_rfl
def p32 : Sp := (32, sg32, meet3S)
theorem e32 : Ent p32 := ent_of unAll (l := []) ents_nil q32 fun args rs h hl => by
  match args, hl with
  | [a, b, c, d], _ =>
    simp only [meet3S] at h
    cases h
    refine ⟨0, ?_⟩
    simp only [t32, T.den, B.den, A.den, E.den, Cm.den, List.map, List.getD_cons_zero, List.getD_cons_succ, List.cons_append, List.nil_append, Bool.or_eq_true, Bool.and_eq_true, Bool.not_eq_true', decide_eq_true_eq, decide_eq_false_iff_not, beq_iff_eq, beq_eq_false_iff_ne, ne_eq, mn_eq, mx_eq]
    split <;> rfl
def sg33 : Sig := ⟨[(.agg [.int .i64, .int .i64]), (.agg [.int .i64, .int .i64])], [(.agg [.int .i64, .int .i64])]⟩
def t33 : T := (.br (.not (.cmp .eq (.v 2) (.v 3))) (.ret [(.v 0), (.v 1)]) (.br (.and (.cmp .eq (.v 0) (.v 2)) (.cmp .eq (.v 1) (.v 3))) (.ret [(.n 1), (.n 0)]) (.br (.cmp .eq (.v 0) (.v 2)) (.lt (.add .i64 (.v 0) (.n 1)) (.ret [(.v 4), (.v 1)])) (.br (.cmp .eq (.v 1) (.v 2)) (.lt (.sub .i64 (.v 1) (.n 1)) (.ret [(.v 0), (.v 4)])) (.ret [(.v 0), (.v 1)])))))
theorem q33 : sxFunc (Cf [] unAll) 200 33 sg33 = t33 := by kernel_rfl
def p33 : Sp := (33, sg33, withoutS)
theorem e33 : Ent p33 := ent_of unAll (l := []) ents_nil q33 fun args rs h hl => by
  match args, hl with
  | [a, b, c, d], _ =>
    simp only [withoutS] at h
    split at h
    · rename_i hr
      cases h
      refine ⟨0, ?_⟩
      simp only [t33, T.den, B.den, A.den, E.den, Cm.den, List.map, List.getD_cons_zero, List.getD_cons_succ, List.cons_append, List.nil_append, Bool.or_eq_true, Bool.and_eq_true, Bool.not_eq_true', decide_eq_true_eq, decide_eq_false_iff_not, beq_iff_eq, beq_eq_false_iff_ne, ne_eq, wrap64]
      unfold wl wh
      unfold in4 inI at hr
      repeat' split
      all_goals first | rfl | (exfalso; omega) | (simp only [Option.some.injEq, Prod.mk.injEq, List.cons.injEq, and_true, true_and]; omega)
    · cases h
def sg34 : Sig := ⟨[(.agg [.int .i64, .int .i64]), (.agg [.int .i64, .int .i64])], [(.agg [.int .i64, .int .i64]), (.agg [.int .i64, .int .i64])]⟩
def t34 : T := (.br (.or (.cmp .eq (.v 3) (.n (-9223372036854775808))) (.cmp .eq (.v 0) (.n 9223372036854775807))) (.ret [(.n 1), (.n 0), (.n 1), (.n 0)]) (.lt (.sub .i64 (.v 3) (.n 1)) (.lt (.mn (.v 1) (.v 4)) (.lt (.add .i64 (.v 0) (.n 1)) (.lt (.mx (.v 6) (.v 2)) (.ret [(.v 0), (.v 5), (.v 7), (.v 3)]))))))
theorem q34 : sxFunc (Cf [] unAll) 200 34 sg34 = t34 := by kernel_rfl
def p34 : Sp := (34, sg34, lessS)
theorem e34 : Ent p34 := ent_of unAll (l := []) ents_nil q34 fun args rs h hl => by
  match args, hl with
  | [a, b, c, d], _ =>
    simp only [lessS] at h
    cases h
    refine ⟨0, ?_⟩
    simp only [t34, T.den, B.den, A.den, E.den, Cm.den, List.map, List.getD_cons_zero, List.getD_cons_succ, List.cons_append, List.nil_append, Bool.or_eq_true, Bool.and_eq_true, Bool.not_eq_true', decide_eq_true_eq, decide_eq_false_iff_not, beq_iff_eq, beq_eq_false_iff_ne, ne_eq, wrap64, mn_eq, mx_eq]
    by_cases hh : no a d
    · rw [if_pos hh, if_pos hh, if_pos hh, if_pos hh]
      exact if_pos hh
    · rw [if_neg hh, if_neg hh, if_neg hh, if_neg hh]
      exact if_neg hh
def sg35 : Sig := ⟨[(.agg [.int .i64, .int .i64]), (.agg [.int .i64, .int .i64])], [(.agg [.int .i64, .int .i64]), (.agg [.int .i64, .int .i64])]⟩
def t35 : T := (.lt (.mn (.v 1) (.v 3)) (.lt (.mx (.v 0) (.v 2)) (.ret [(.v 0), (.v 4), (.v 5), (.v 3)])))
theorem q35 : sxFunc (Cf [] unAll) 200 35 sg35 = t35 := by kernel_rfl
def p35 : Sp := (35, sg35, mostS)
theorem e35 : Ent p35 := ent_of unAll (l := []) ents_nil q35 fun args rs h hl => by
  match args, hl with
  | [a, b, c, d], _ =>
    simp only [mostS] at h
    cases h
    refine ⟨0, ?_⟩
    simp only [t35, T.den, B.den, A.den, E.den, Cm.den, List.map, List.getD_cons_zero, List.getD_cons_succ, List.cons_append, List.nil_append, Bool.or_eq_true, Bool.and_eq_true, Bool.not_eq_true', decide_eq_true_eq, decide_eq_false_iff_not, beq_iff_eq, beq_eq_false_iff_ne, ne_eq, mn_eq, mx_eq]
def fits1 (op k : Int) : Int := if (k = 1 ∨ k = 2) ∧ (op = 1 ∨ op = 3) ∨ k = 3 ∧ op = 2 then 1 else 0
def fits2 (op k : Int) : Int := if (1 ≤ op ∧ op ≤ 10 ∨ 13 ≤ op ∧ op ≤ 16) ∧ (k = 1 ∨ k = 2) ∨ (op = 11 ∨ op = 12) ∧ (k = 1 ∨ k = 2 ∨ k = 3) ∨ (op = 17 ∨ op = 18) ∧ k = 3 then 1 else 0
def fitsS : List Int → Option (List Int)
  | [op, k, t] => some [if t = 0 then fits1 op k else fits2 op k]
  | _ => none
def sg36 : Sig := ⟨[I, I, L], [L]⟩
def t36 : T := (.br (.cmp .eq (.v 2) (.n 0)) (.lt (.sel (.or (.and (.or (.cmp .eq (.v 1) (.n 1)) (.cmp .eq (.v 1) (.n 2))) (.or (.cmp .eq (.v 0) (.n 1)) (.cmp .eq (.v 0) (.n 3)))) (.and (.cmp .eq (.v 1) (.n 3)) (.cmp .eq (.v 0) (.n 2)))) (.n 1) (.n 0)) (.ret [(.v 3)])) (.br (.or (.and (.not (.cmp .lt (.v 0) (.n 1))) (.not (.cmp .lt (.n 10) (.v 0)))) (.and (.not (.cmp .lt (.v 0) (.n 13))) (.not (.cmp .lt (.n 16) (.v 0))))) (.lt (.sel (.or (.cmp .eq (.v 1) (.n 1)) (.cmp .eq (.v 1) (.n 2))) (.n 1) (.n 0)) (.ret [(.v 3)])) (.br (.or (.cmp .eq (.v 0) (.n 11)) (.cmp .eq (.v 0) (.n 12))) (.lt (.sel (.or (.or (.cmp .eq (.v 1) (.n 1)) (.cmp .eq (.v 1) (.n 2))) (.cmp .eq (.v 1) (.n 3))) (.n 1) (.n 0)) (.ret [(.v 3)])) (.br (.or (.cmp .eq (.v 0) (.n 17)) (.cmp .eq (.v 0) (.n 18))) (.lt (.sel (.cmp .eq (.v 1) (.n 3)) (.n 1) (.n 0)) (.ret [(.v 3)])) (.ret [(.n 0)])))))
theorem q36 : sxFunc (Cf [] unAll) 200 36 sg36 = t36 := by kernel_rfl
def p36 : Sp := (36, sg36, fitsS)
theorem e36 : Ent p36 := ent_of unAll (l := []) ents_nil q36 fun args rs h hl => by
  match args, hl with
  | [op, k, t], _ =>
    simp only [fitsS] at h
    cases h
    refine ⟨0, ?_⟩
    simp only [t36, T.den, B.den, A.den, E.den, Cm.den, List.map, List.getD_cons_zero, List.getD_cons_succ, List.cons_append, List.nil_append, Bool.or_eq_true, Bool.and_eq_true, Bool.not_eq_true', decide_eq_true_eq, decide_eq_false_iff_not, beq_iff_eq, beq_eq_false_iff_ne, ne_eq]
    unfold fits1 fits2
    repeat' split
    all_goals first | rfl | (exfalso; omega) | (simp only [Option.some.injEq, Prod.mk.injEq, List.cons.injEq, and_true, true_and]; omega)
def opp (op : Int) : Int := if op = 11 then 12 else if op = 12 then 11 else if op = 13 then 16 else if op = 14 then 15 else if op = 15 then 14 else 13
def oppS : List Int → Option (List Int)
  | [op] => if 11 ≤ op ∧ op ≤ 16 then some [opp op] else none
  | _ => none
def sg37 : Sig := ⟨[I], [I]⟩
def t37 : T := (.lt (.sub .i64 (.v 0) (.n 11)) (.br (.cmp .eq (.v 1) (.n 0)) (.ret [(.n 12)]) (.br (.cmp .eq (.v 1) (.n 1)) (.ret [(.n 11)]) (.br (.cmp .eq (.v 1) (.n 2)) (.ret [(.n 16)]) (.br (.cmp .eq (.v 1) (.n 3)) (.ret [(.n 15)]) (.br (.cmp .eq (.v 1) (.n 4)) (.ret [(.n 14)]) (.br (.cmp .eq (.v 1) (.n 5)) (.ret [(.n 13)]) (.fail 106))))))))
theorem q37 : sxFunc (Cf [] unAll) 200 37 sg37 = t37 := by kernel_rfl
def p37 : Sp := (37, sg37, oppS)
theorem e37 : Ent p37 := ent_of unAll (l := []) ents_nil q37 fun args rs h hl => by
  match args, hl with
  | [op], _ =>
    simp only [oppS] at h
    split at h
    · rename_i hr
      cases h
      refine ⟨0, ?_⟩
      simp only [t37, T.den, B.den, A.den, E.den, Cm.den, List.map, List.getD_cons_zero, List.getD_cons_succ, List.cons_append, List.nil_append, Bool.or_eq_true, Bool.and_eq_true, Bool.not_eq_true', decide_eq_true_eq, decide_eq_false_iff_not, beq_iff_eq, beq_eq_false_iff_ne, ne_eq, wrap64]
      rw [w64_id (by unfold inI; omega)]
      unfold opp
      repeat' split
      all_goals first | rfl | (exfalso; omega) | (simp only [Option.some.injEq, Prod.mk.injEq, List.cons.injEq, and_true, true_and]; omega)
    · cases h
def singleS : List Int → Option (List Int)
  | [a, b] => some [if a = b then 1 else 0]
  | _ => none
def sg52 : Sig := ⟨[(.agg [.int .i64, .int .i64])], [L]⟩
def t52 : T := (.lt (.sel (.cmp .eq (.v 0) (.v 1)) (.n 1) (.n 0)) (.ret [(.v 2)]))
theorem q52 : sxFunc (Cf [] unAll) 200 52 sg52 = t52 := by kernel_rfl
def p52 : Sp := (52, sg52, singleS)
theorem e52 : Ent p52 := ent_of unAll (l := []) ents_nil q52 fun args rs h hl => by
  match args, hl with
  | [a, b], _ =>
    simp only [singleS] at h
    cases h
    refine ⟨0, ?_⟩
    simp only [t52, T.den, B.den, A.den, E.den, Cm.den, List.map, List.getD_cons_zero, List.getD_cons_succ, List.cons_append, List.nil_append, Bool.or_eq_true, Bool.and_eq_true, Bool.not_eq_true', decide_eq_true_eq, decide_eq_false_iff_not, beq_iff_eq, beq_eq_false_iff_ne, ne_eq]
def vl (a b n : Int) : Int := if a = b ∧ a = n then 1 else if a = n then w64 (n + 1) else a
def vh (a b n : Int) : Int := if a = b ∧ a = n then 0 else if a = n then b else if b = n then w64 (n - 1) else b
def without2S : List Int → Option (List Int)
  | [a, b, n] => some [vl a b n, vh a b n]
  | _ => none
def sg53 : Sig := ⟨[(.agg [.int .i64, .int .i64]), I], [(.agg [.int .i64, .int .i64])]⟩
def t53 : T := (.br (.and (.cmp .eq (.v 0) (.v 1)) (.cmp .eq (.v 0) (.v 2))) (.ret [(.n 1), (.n 0)]) (.br (.cmp .eq (.v 0) (.v 2)) (.lt (.add .i64 (.v 2) (.n 1)) (.ret [(.v 3), (.v 1)])) (.br (.cmp .eq (.v 1) (.v 2)) (.lt (.sub .i64 (.v 2) (.n 1)) (.ret [(.v 0), (.v 3)])) (.ret [(.v 0), (.v 1)]))))
theorem q53 : sxFunc (Cf [] unAll) 200 53 sg53 = t53 := by kernel_rfl
def p53 : Sp := (53, sg53, without2S)
theorem e53 : Ent p53 := ent_of unAll (l := []) ents_nil q53 fun args rs h hl => by
  match args, hl with
  | [a, b, n], _ =>
    simp only [without2S] at h
    cases h
    refine ⟨0, ?_⟩
    simp only [t53, T.den, B.den, A.den, E.den, Cm.den, List.map, List.getD_cons_zero, List.getD_cons_succ, List.cons_append, List.nil_append, Bool.or_eq_true, Bool.and_eq_true, Bool.not_eq_true', decide_eq_true_eq, decide_eq_false_iff_not, beq_iff_eq, beq_eq_false_iff_ne, ne_eq, wrap64]
    unfold vl vh
    repeat' split
    all_goals first | rfl | (exfalso; omega) | (simp only [Option.some.injEq, Prod.mk.injEq, List.cons.injEq, and_true, true_and]; omega)

/-! ### What is left -/
def done5 (xl xh yl yh : Int) : List Int := [xl, xh, yl, yh, if xl ≤ xh ∧ yl ≤ yh then 1 else 0]
/-- Equal; not equal; less; at most. -/
def lf1 (op a b c d : Int) : List Int :=
  if op = 11 then [meetL a b c d, meetH a b c d, meetL a b c d, meetH a b c d, meetB a b c d] else
  if op = 12 then done5 (if c = d then vl a b c else a) (if c = d then vh a b c else b) (if a = b then vl c d a else c) (if a = b then vh c d a else d) else
  if op = 14 then done5 a (min b d) (max c a) d else
  if no a d then [a, b, c, d, 0] else done5 a (min b (w64 (d - 1))) (max c (w64 (a + 1))) d
def left1S : List Int → Option (List Int)
  | [op, a, b, c, d] => if (op = 13 ∨ op = 14) ∧ in4 a b c d then some (lf1 op a b c d) else none
  | _ => none
theorem lf1_form (op a b c d : Int) : ∃ p q r s t, lf1 op a b c d = [p, q, r, s, t] ∧ (t = 0 ∨ t = 1) := by
  unfold lf1
  split
  · exact ⟨_, _, _, _, _, rfl, by unfold meetB; split <;> omega⟩
  · split
    · exact ⟨_, _, _, _, _, rfl, by split <;> omega⟩
    · split
      · exact ⟨_, _, _, _, _, rfl, by split <;> omega⟩
      · split
        · exact ⟨_, _, _, _, _, rfl, by omega⟩
        · exact ⟨_, _, _, _, _, rfl, by split <;> omega⟩
def sg38 : Sig := ⟨[I, RG, RG], [RG, RG, L]⟩
def t38x13 : T := (.br (.or (.cmp .eq (.v 4) (.n (-9223372036854775808))) (.cmp .eq (.v 1) (.n 9223372036854775807))) (.ret [(.v 1), (.v 2), (.v 3), (.v 4), (.n 0)]) (.lt (.sub .i64 (.v 4) (.n 1)) (.lt (.mn (.v 2) (.v 5)) (.lt (.add .i64 (.v 1) (.n 1)) (.lt (.mx (.v 3) (.v 7)) (.lt (.sel (.and (.not (.cmp .lt (.v 6) (.v 1))) (.not (.cmp .lt (.v 4) (.v 8)))) (.n 1) (.n 0)) (.ret [(.v 1), (.v 6), (.v 8), (.v 4), (.v 9)])))))))
theorem q38x13 : sxRun (Cf [] unAll) 200 38 sg38 ((mkS 0 sg38.ins).map (subst [(0, 13)])) [] = t38x13 := by kernel_rfl
def t38x14 : T := (.lt (.mn (.v 2) (.v 4)) (.lt (.mx (.v 3) (.v 1)) (.lt (.sel (.and (.not (.cmp .lt (.v 5) (.v 1))) (.not (.cmp .lt (.v 4) (.v 6)))) (.n 1) (.n 0)) (.ret [(.v 1), (.v 5), (.v 6), (.v 4), (.v 7)]))))
theorem q38x14 : sxRun (Cf [] unAll) 200 38 sg38 ((mkS 0 sg38.ins).map (subst [(0, 14)])) [] = t38x14 := by kernel_rfl
def p38a : Sp := (38, sg38, left1S)
theorem e38a : Ent p38a := by
  intro args rs w h hl hg
  match args, hl with
  | [op, a, b, c, d], _ =>
    simp only [p38a, left1S] at h
    split at h
    · rename_i hr
      cases h
      obtain ⟨hop, hr⟩ := hr
      rcases hop with rfl | rfl
      · refine ent_run unAll (l := []) ents_nil (is := [13, a, b, c, d]) (K := 0) q38x13 rfl rfl (by kernel_rfl) (fun _ h => absurd h List.not_mem_nil) (fun _ h => absurd h List.not_mem_nil) hg ?_
        simp only [t38x13, T.den, B.den, A.den, E.den, Cm.den, List.map, List.getD_cons_zero, List.getD_cons_succ, List.cons_append, List.nil_append, Bool.or_eq_true, Bool.and_eq_true, Bool.not_eq_true', decide_eq_true_eq, decide_eq_false_iff_not, beq_iff_eq, beq_eq_false_iff_ne, ne_eq, wrap64, mn_eq, mx_eq]
        by_cases hh : no a d
        · rw [if_pos (show d = -9223372036854775808 ∨ a = 9223372036854775807 from hh)]
          simp [lf1, hh]
        · rw [if_neg (show ¬ (d = -9223372036854775808 ∨ a = 9223372036854775807) from hh)]
          simp [lf1, done5, hh]
      · refine ent_run unAll (l := []) ents_nil (is := [14, a, b, c, d]) (K := 0) q38x14 rfl rfl (by kernel_rfl) (fun _ h => absurd h List.not_mem_nil) (fun _ h => absurd h List.not_mem_nil) hg ?_
        simp only [t38x14, T.den, B.den, A.den, E.den, Cm.den, List.map, List.getD_cons_zero, List.getD_cons_succ, List.cons_append, List.nil_append, Bool.or_eq_true, Bool.and_eq_true, Bool.not_eq_true', decide_eq_true_eq, decide_eq_false_iff_not, beq_iff_eq, beq_eq_false_iff_ne, ne_eq, wrap64, mn_eq, mx_eq]
        simp [lf1, done5]
    · cases h
end Go.SXR

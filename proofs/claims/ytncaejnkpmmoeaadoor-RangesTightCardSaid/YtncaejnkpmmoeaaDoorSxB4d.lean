/- RANGES: Binary of the program, comparisons. -/
import Derived.Test.YtncaejnkpmmoeaaDoorSxB30
import Derived.Test.YtncaejnkpmmoeaaDoorSxT4d
set_option linter.unusedVariables false
set_option linter.unusedSimpArgs false
namespace Go.SXR
open Go Go.SX Go.Proofs Go.RowKit

theorem d15x11k1 {F : Nat → List Int → Option (List Int)} {a b c d : Int} (g60 : F 60 = plusS) (g45 : F 45 = minusS) (g65 : F 65 = timesS) (g73 : F 73 = shiftS) (g67 : F 67 = quotS) (g69 : F 69 = restS) (g71 : F 71 = amountS) (g97 : F 97 = lenS) (hr : in4 a b c d) : t15x11k1.den F 0 [11, 1, a, b, c, d] = some (0, binR 11 1 a b c d) := by
  obtain ⟨ha, hb, hc, hd⟩ := hr
  have ok1 := okR1 ha hb
  have ok2 := okR1 hc hd
  by_cases h1 : (b < a ∨ a < -9223372036854775808) ∨ 9223372036854775807 < b
  · rw [binR_no (fun h => ok1.1 h.2.1 h1)]
    simp [t15x11k1, T.den, B.den, A.den, E.den, Cm.den, h1]
  · by_cases h2 : (d < c ∨ c < -9223372036854775808) ∨ 9223372036854775807 < d
    · rw [binR_no (fun h => ok2.1 h.2.2 h2)]
      simp [t15x11k1, T.den, B.den, A.den, E.den, Cm.den, h1, h2]
    · have o1 : okR 1 a b := ok1.2 h1
      have o2 : okR 1 c d := ok2.2 h2
      have hab := o1.2
      have hcd := o2.2
      rw [binR_ok ⟨by decide, o1, o2⟩]
      have h1' : ((decide (b < a) || decide (a < -9223372036854775808) || decide (9223372036854775807 < b)) = false) := by simpa using h1
      have h2' : ((decide (d < c) || decide (c < -9223372036854775808) || decide (9223372036854775807 < d)) = false) := by simpa using h2
      have e2 : effS 11 1 a b c d = [if cmpA 11 a b c d then 1 else 0, if cmpN 11 a b c d then 0 else 1, 1, 0, 0] := rfl
      rw [e2]
      simp only [t15x11k1, T.den, B.den, A.den, E.den, Cm.den, List.map, List.getD_cons_zero, List.getD_cons_succ, List.cons_append, List.nil_append, List.length_cons, List.length_nil, Nat.zero_add, Nat.reduceAdd, if_true, if_false, Bool.false_eq_true, h1', h2', cmpA, cmpN, Int.reduceEq, Bool.or_eq_true, Bool.and_eq_true, Bool.not_eq_true', decide_eq_true_eq, decide_eq_false_iff_not, beq_iff_eq]
      (repeat' split) <;> first | rfl | (exfalso; omega) | (simp only [Option.some.injEq, Prod.mk.injEq, List.cons.injEq, and_true, true_and]; omega)
theorem d15x11k2 {F : Nat → List Int → Option (List Int)} {a b c d : Int} (g60 : F 60 = plusS) (g45 : F 45 = minusS) (g65 : F 65 = timesS) (g73 : F 73 = shiftS) (g67 : F 67 = quotS) (g69 : F 69 = restS) (g71 : F 71 = amountS) (g97 : F 97 = lenS) (hr : in4 a b c d) : t15x11k2.den F 0 [11, 2, a, b, c, d] = some (0, binR 11 2 a b c d) := by
  obtain ⟨ha, hb, hc, hd⟩ := hr
  have ok1 := okR2 (a := a) (b := b)
  have ok2 := okR2 (a := c) (b := d)
  by_cases h1 : (b < a ∨ a < 0) ∨ 255 < b
  · rw [binR_no (fun h => ok1.1 h.2.1 h1)]
    simp [t15x11k2, T.den, B.den, A.den, E.den, Cm.den, h1]
  · by_cases h2 : (d < c ∨ c < 0) ∨ 255 < d
    · rw [binR_no (fun h => ok2.1 h.2.2 h2)]
      simp [t15x11k2, T.den, B.den, A.den, E.den, Cm.den, h1, h2]
    · have o1 : okR 2 a b := ok1.2 h1
      have o2 : okR 2 c d := ok2.2 h2
      have hab := o1.2
      have hcd := o2.2
      rw [binR_ok ⟨by decide, o1, o2⟩]
      have h1' : ((decide (b < a) || decide (a < 0) || decide (255 < b)) = false) := by simpa using h1
      have h2' : ((decide (d < c) || decide (c < 0) || decide (255 < d)) = false) := by simpa using h2
      have e2 : effS 11 2 a b c d = [if cmpA 11 a b c d then 1 else 0, if cmpN 11 a b c d then 0 else 1, 1, 0, 0] := rfl
      rw [e2]
      simp only [t15x11k2, T.den, B.den, A.den, E.den, Cm.den, List.map, List.getD_cons_zero, List.getD_cons_succ, List.cons_append, List.nil_append, List.length_cons, List.length_nil, Nat.zero_add, Nat.reduceAdd, if_true, if_false, Bool.false_eq_true, h1', h2', cmpA, cmpN, Int.reduceEq, Bool.or_eq_true, Bool.and_eq_true, Bool.not_eq_true', decide_eq_true_eq, decide_eq_false_iff_not, beq_iff_eq]
      (repeat' split) <;> first | rfl | (exfalso; omega) | (simp only [Option.some.injEq, Prod.mk.injEq, List.cons.injEq, and_true, true_and]; omega)
theorem d15x11k3 {F : Nat → List Int → Option (List Int)} {a b c d : Int} (g60 : F 60 = plusS) (g45 : F 45 = minusS) (g65 : F 65 = timesS) (g73 : F 73 = shiftS) (g67 : F 67 = quotS) (g69 : F 69 = restS) (g71 : F 71 = amountS) (g97 : F 97 = lenS) (hr : in4 a b c d) : t15x11k3.den F 0 [11, 3, a, b, c, d] = some (0, binR 11 3 a b c d) := by
  obtain ⟨ha, hb, hc, hd⟩ := hr
  have ok1 := okR3 (a := a) (b := b)
  have ok2 := okR3 (a := c) (b := d)
  by_cases h1 : (b < a ∨ a < 0) ∨ 1 < b
  · rw [binR_no (fun h => ok1.1 h.2.1 h1)]
    simp [t15x11k3, T.den, B.den, A.den, E.den, Cm.den, h1]
  · by_cases h2 : (d < c ∨ c < 0) ∨ 1 < d
    · rw [binR_no (fun h => ok2.1 h.2.2 h2)]
      simp [t15x11k3, T.den, B.den, A.den, E.den, Cm.den, h1, h2]
    · have o1 : okR 3 a b := ok1.2 h1
      have o2 : okR 3 c d := ok2.2 h2
      have hab := o1.2
      have hcd := o2.2
      rw [binR_ok ⟨by decide, o1, o2⟩]
      have h1' : ((decide (b < a) || decide (a < 0) || decide (1 < b)) = false) := by simpa using h1
      have h2' : ((decide (d < c) || decide (c < 0) || decide (1 < d)) = false) := by simpa using h2
      have e2 : effS 11 3 a b c d = [if cmpA 11 a b c d then 1 else 0, if cmpN 11 a b c d then 0 else 1, 1, 0, 0] := rfl
      rw [e2]
      simp only [t15x11k3, T.den, B.den, A.den, E.den, Cm.den, List.map, List.getD_cons_zero, List.getD_cons_succ, List.cons_append, List.nil_append, List.length_cons, List.length_nil, Nat.zero_add, Nat.reduceAdd, if_true, if_false, Bool.false_eq_true, h1', h2', cmpA, cmpN, Int.reduceEq, Bool.or_eq_true, Bool.and_eq_true, Bool.not_eq_true', decide_eq_true_eq, decide_eq_false_iff_not, beq_iff_eq]
      (repeat' split) <;> first | rfl | (exfalso; omega) | (simp only [Option.some.injEq, Prod.mk.injEq, List.cons.injEq, and_true, true_and]; omega)
theorem d15x12k1 {F : Nat → List Int → Option (List Int)} {a b c d : Int} (g60 : F 60 = plusS) (g45 : F 45 = minusS) (g65 : F 65 = timesS) (g73 : F 73 = shiftS) (g67 : F 67 = quotS) (g69 : F 69 = restS) (g71 : F 71 = amountS) (g97 : F 97 = lenS) (hr : in4 a b c d) : t15x12k1.den F 0 [12, 1, a, b, c, d] = some (0, binR 12 1 a b c d) := by
  obtain ⟨ha, hb, hc, hd⟩ := hr
  have ok1 := okR1 ha hb
  have ok2 := okR1 hc hd
  by_cases h1 : (b < a ∨ a < -9223372036854775808) ∨ 9223372036854775807 < b
  · rw [binR_no (fun h => ok1.1 h.2.1 h1)]
    simp [t15x12k1, T.den, B.den, A.den, E.den, Cm.den, h1]
  · by_cases h2 : (d < c ∨ c < -9223372036854775808) ∨ 9223372036854775807 < d
    · rw [binR_no (fun h => ok2.1 h.2.2 h2)]
      simp [t15x12k1, T.den, B.den, A.den, E.den, Cm.den, h1, h2]
    · have o1 : okR 1 a b := ok1.2 h1
      have o2 : okR 1 c d := ok2.2 h2
      have hab := o1.2
      have hcd := o2.2
      rw [binR_ok ⟨by decide, o1, o2⟩]
      have h1' : ((decide (b < a) || decide (a < -9223372036854775808) || decide (9223372036854775807 < b)) = false) := by simpa using h1
      have h2' : ((decide (d < c) || decide (c < -9223372036854775808) || decide (9223372036854775807 < d)) = false) := by simpa using h2
      have e2 : effS 12 1 a b c d = [if cmpA 12 a b c d then 1 else 0, if cmpN 12 a b c d then 0 else 1, 1, 0, 0] := rfl
      rw [e2]
      simp only [t15x12k1, T.den, B.den, A.den, E.den, Cm.den, List.map, List.getD_cons_zero, List.getD_cons_succ, List.cons_append, List.nil_append, List.length_cons, List.length_nil, Nat.zero_add, Nat.reduceAdd, if_true, if_false, Bool.false_eq_true, h1', h2', cmpA, cmpN, Int.reduceEq, Bool.or_eq_true, Bool.and_eq_true, Bool.not_eq_true', decide_eq_true_eq, decide_eq_false_iff_not, beq_iff_eq]
      (repeat' split) <;> first | rfl | (exfalso; omega) | (simp only [Option.some.injEq, Prod.mk.injEq, List.cons.injEq, and_true, true_and]; omega)
theorem d15x12k2 {F : Nat → List Int → Option (List Int)} {a b c d : Int} (g60 : F 60 = plusS) (g45 : F 45 = minusS) (g65 : F 65 = timesS) (g73 : F 73 = shiftS) (g67 : F 67 = quotS) (g69 : F 69 = restS) (g71 : F 71 = amountS) (g97 : F 97 = lenS) (hr : in4 a b c d) : t15x12k2.den F 0 [12, 2, a, b, c, d] = some (0, binR 12 2 a b c d) := by
  obtain ⟨ha, hb, hc, hd⟩ := hr
  have ok1 := okR2 (a := a) (b := b)
  have ok2 := okR2 (a := c) (b := d)
  by_cases h1 : (b < a ∨ a < 0) ∨ 255 < b
  · rw [binR_no (fun h => ok1.1 h.2.1 h1)]
    simp [t15x12k2, T.den, B.den, A.den, E.den, Cm.den, h1]
  · by_cases h2 : (d < c ∨ c < 0) ∨ 255 < d
    · rw [binR_no (fun h => ok2.1 h.2.2 h2)]
      simp [t15x12k2, T.den, B.den, A.den, E.den, Cm.den, h1, h2]
    · have o1 : okR 2 a b := ok1.2 h1
      have o2 : okR 2 c d := ok2.2 h2
      have hab := o1.2
      have hcd := o2.2
      rw [binR_ok ⟨by decide, o1, o2⟩]
      have h1' : ((decide (b < a) || decide (a < 0) || decide (255 < b)) = false) := by simpa using h1
      have h2' : ((decide (d < c) || decide (c < 0) || decide (255 < d)) = false) := by simpa using h2
      have e2 : effS 12 2 a b c d = [if cmpA 12 a b c d then 1 else 0, if cmpN 12 a b c d then 0 else 1, 1, 0, 0] := rfl
      rw [e2]
      simp only [t15x12k2, T.den, B.den, A.den, E.den, Cm.den, List.map, List.getD_cons_zero, List.getD_cons_succ, List.cons_append, List.nil_append, List.length_cons, List.length_nil, Nat.zero_add, Nat.reduceAdd, if_true, if_false, Bool.false_eq_true, h1', h2', cmpA, cmpN, Int.reduceEq, Bool.or_eq_true, Bool.and_eq_true, Bool.not_eq_true', decide_eq_true_eq, decide_eq_false_iff_not, beq_iff_eq]
      (repeat' split) <;> first | rfl | (exfalso; omega) | (simp only [Option.some.injEq, Prod.mk.injEq, List.cons.injEq, and_true, true_and]; omega)
theorem d15x12k3 {F : Nat → List Int → Option (List Int)} {a b c d : Int} (g60 : F 60 = plusS) (g45 : F 45 = minusS) (g65 : F 65 = timesS) (g73 : F 73 = shiftS) (g67 : F 67 = quotS) (g69 : F 69 = restS) (g71 : F 71 = amountS) (g97 : F 97 = lenS) (hr : in4 a b c d) : t15x12k3.den F 0 [12, 3, a, b, c, d] = some (0, binR 12 3 a b c d) := by
  obtain ⟨ha, hb, hc, hd⟩ := hr
  have ok1 := okR3 (a := a) (b := b)
  have ok2 := okR3 (a := c) (b := d)
  by_cases h1 : (b < a ∨ a < 0) ∨ 1 < b
  · rw [binR_no (fun h => ok1.1 h.2.1 h1)]
    simp [t15x12k3, T.den, B.den, A.den, E.den, Cm.den, h1]
  · by_cases h2 : (d < c ∨ c < 0) ∨ 1 < d
    · rw [binR_no (fun h => ok2.1 h.2.2 h2)]
      simp [t15x12k3, T.den, B.den, A.den, E.den, Cm.den, h1, h2]
    · have o1 : okR 3 a b := ok1.2 h1
      have o2 : okR 3 c d := ok2.2 h2
      have hab := o1.2
      have hcd := o2.2
      rw [binR_ok ⟨by decide, o1, o2⟩]
      have h1' : ((decide (b < a) || decide (a < 0) || decide (1 < b)) = false) := by simpa using h1
      have h2' : ((decide (d < c) || decide (c < 0) || decide (1 < d)) = false) := by simpa using h2
      have e2 : effS 12 3 a b c d = [if cmpA 12 a b c d then 1 else 0, if cmpN 12 a b c d then 0 else 1, 1, 0, 0] := rfl
      rw [e2]
      simp only [t15x12k3, T.den, B.den, A.den, E.den, Cm.den, List.map, List.getD_cons_zero, List.getD_cons_succ, List.cons_append, List.nil_append, List.length_cons, List.length_nil, Nat.zero_add, Nat.reduceAdd, if_true, if_false, Bool.false_eq_true, h1', h2', cmpA, cmpN, Int.reduceEq, Bool.or_eq_true, Bool.and_eq_true, Bool.not_eq_true', decide_eq_true_eq, decide_eq_false_iff_not, beq_iff_eq]
      (repeat' split) <;> first | rfl | (exfalso; omega) | (simp only [Option.some.injEq, Prod.mk.injEq, List.cons.injEq, and_true, true_and]; omega)
theorem d15x13k1 {F : Nat → List Int → Option (List Int)} {a b c d : Int} (g60 : F 60 = plusS) (g45 : F 45 = minusS) (g65 : F 65 = timesS) (g73 : F 73 = shiftS) (g67 : F 67 = quotS) (g69 : F 69 = restS) (g71 : F 71 = amountS) (g97 : F 97 = lenS) (hr : in4 a b c d) : t15x13k1.den F 0 [13, 1, a, b, c, d] = some (0, binR 13 1 a b c d) := by
  obtain ⟨ha, hb, hc, hd⟩ := hr
  have ok1 := okR1 ha hb
  have ok2 := okR1 hc hd
  by_cases h1 : (b < a ∨ a < -9223372036854775808) ∨ 9223372036854775807 < b
  · rw [binR_no (fun h => ok1.1 h.2.1 h1)]
    simp [t15x13k1, T.den, B.den, A.den, E.den, Cm.den, h1]
  · by_cases h2 : (d < c ∨ c < -9223372036854775808) ∨ 9223372036854775807 < d
    · rw [binR_no (fun h => ok2.1 h.2.2 h2)]
      simp [t15x13k1, T.den, B.den, A.den, E.den, Cm.den, h1, h2]
    · have o1 : okR 1 a b := ok1.2 h1
      have o2 : okR 1 c d := ok2.2 h2
      have hab := o1.2
      have hcd := o2.2
      rw [binR_ok ⟨by decide, o1, o2⟩]
      have h1' : ((decide (b < a) || decide (a < -9223372036854775808) || decide (9223372036854775807 < b)) = false) := by simpa using h1
      have h2' : ((decide (d < c) || decide (c < -9223372036854775808) || decide (9223372036854775807 < d)) = false) := by simpa using h2
      have e2 : effS 13 1 a b c d = [if cmpA 13 a b c d then 1 else 0, if cmpN 13 a b c d then 0 else 1, 1, 0, 0] := rfl
      rw [e2]
      simp only [t15x13k1, T.den, B.den, A.den, E.den, Cm.den, List.map, List.getD_cons_zero, List.getD_cons_succ, List.cons_append, List.nil_append, List.length_cons, List.length_nil, Nat.zero_add, Nat.reduceAdd, if_true, if_false, Bool.false_eq_true, h1', h2', cmpA, cmpN, Int.reduceEq, Bool.or_eq_true, Bool.and_eq_true, Bool.not_eq_true', decide_eq_true_eq, decide_eq_false_iff_not, beq_iff_eq]
      (repeat' split) <;> first | rfl | (exfalso; omega) | (simp only [Option.some.injEq, Prod.mk.injEq, List.cons.injEq, and_true, true_and]; omega)
theorem d15x13k2 {F : Nat → List Int → Option (List Int)} {a b c d : Int} (g60 : F 60 = plusS) (g45 : F 45 = minusS) (g65 : F 65 = timesS) (g73 : F 73 = shiftS) (g67 : F 67 = quotS) (g69 : F 69 = restS) (g71 : F 71 = amountS) (g97 : F 97 = lenS) (hr : in4 a b c d) : t15x13k2.den F 0 [13, 2, a, b, c, d] = some (0, binR 13 2 a b c d) := by
  obtain ⟨ha, hb, hc, hd⟩ := hr
  have ok1 := okR2 (a := a) (b := b)
  have ok2 := okR2 (a := c) (b := d)
  by_cases h1 : (b < a ∨ a < 0) ∨ 255 < b
  · rw [binR_no (fun h => ok1.1 h.2.1 h1)]
    simp [t15x13k2, T.den, B.den, A.den, E.den, Cm.den, h1]
  · by_cases h2 : (d < c ∨ c < 0) ∨ 255 < d
    · rw [binR_no (fun h => ok2.1 h.2.2 h2)]
      simp [t15x13k2, T.den, B.den, A.den, E.den, Cm.den, h1, h2]
    · have o1 : okR 2 a b := ok1.2 h1
      have o2 : okR 2 c d := ok2.2 h2
      have hab := o1.2
      have hcd := o2.2
      rw [binR_ok ⟨by decide, o1, o2⟩]
      have h1' : ((decide (b < a) || decide (a < 0) || decide (255 < b)) = false) := by simpa using h1
      have h2' : ((decide (d < c) || decide (c < 0) || decide (255 < d)) = false) := by simpa using h2
      have e2 : effS 13 2 a b c d = [if cmpA 13 a b c d then 1 else 0, if cmpN 13 a b c d then 0 else 1, 1, 0, 0] := rfl
      rw [e2]
      simp only [t15x13k2, T.den, B.den, A.den, E.den, Cm.den, List.map, List.getD_cons_zero, List.getD_cons_succ, List.cons_append, List.nil_append, List.length_cons, List.length_nil, Nat.zero_add, Nat.reduceAdd, if_true, if_false, Bool.false_eq_true, h1', h2', cmpA, cmpN, Int.reduceEq, Bool.or_eq_true, Bool.and_eq_true, Bool.not_eq_true', decide_eq_true_eq, decide_eq_false_iff_not, beq_iff_eq]
      (repeat' split) <;> first | rfl | (exfalso; omega) | (simp only [Option.some.injEq, Prod.mk.injEq, List.cons.injEq, and_true, true_and]; omega)
theorem d15x13k3 {F : Nat → List Int → Option (List Int)} {a b c d : Int} (g60 : F 60 = plusS) (g45 : F 45 = minusS) (g65 : F 65 = timesS) (g73 : F 73 = shiftS) (g67 : F 67 = quotS) (g69 : F 69 = restS) (g71 : F 71 = amountS) (g97 : F 97 = lenS) (hr : in4 a b c d) : t15x13k3.den F 0 [13, 3, a, b, c, d] = some (0, binR 13 3 a b c d) := by
  obtain ⟨ha, hb, hc, hd⟩ := hr
  have ok1 := okR3 (a := a) (b := b)
  have ok2 := okR3 (a := c) (b := d)
  rw [binR_no (by unfold okB fitsB; omega)]
  by_cases h1 : (b < a ∨ a < 0) ∨ 1 < b
  · simp [t15x13k3, T.den, B.den, A.den, E.den, Cm.den, h1]
  · by_cases h2 : (d < c ∨ c < 0) ∨ 1 < d <;> simp [t15x13k3, T.den, B.den, A.den, E.den, Cm.den, h1, h2]
end Go.SXR

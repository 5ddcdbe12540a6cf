/- RANGES: Binary of the program, shifts. -/
import Derived.Test.YtncaejnkpmmoeaaDoorSxB30
import Derived.Test.YtncaejnkpmmoeaaDoorSxT4b
set_option linter.unusedVariables false
set_option linter.unusedSimpArgs false
namespace Go.SXR
open Go Go.SX Go.Proofs Go.RowKit

theorem d15x6k1 {F : Nat → List Int → Option (List Int)} {a b c d : Int} (g60 : F 60 = plusS) (g45 : F 45 = minusS) (g65 : F 65 = timesS) (g73 : F 73 = shiftS) (g67 : F 67 = quotS) (g69 : F 69 = restS) (g71 : F 71 = amountS) (g97 : F 97 = lenS) (hr : in4 a b c d) : t15x6k1.den F 0 [6, 1, a, b, c, d] = some (0, binR 6 1 a b c d) := by
  obtain ⟨ha, hb, hc, hd⟩ := hr
  have ok1 := okR1 ha hb
  have ok2 := okR1 hc hd
  by_cases h1 : (b < a ∨ a < -9223372036854775808) ∨ 9223372036854775807 < b
  · rw [binR_no (fun h => ok1.1 h.2.1 h1)]
    simp [t15x6k1, T.den, B.den, A.den, E.den, Cm.den, h1]
  · by_cases h2 : (d < c ∨ c < -9223372036854775808) ∨ 9223372036854775807 < d
    · rw [binR_no (fun h => ok2.1 h.2.2 h2)]
      simp [t15x6k1, T.den, B.den, A.den, E.den, Cm.den, h1, h2]
    · have o1 : okR 1 a b := ok1.2 h1
      have o2 : okR 1 c d := ok2.2 h2
      have hab := o1.2
      have hcd := o2.2
      rw [binR_ok ⟨by decide, o1, o2⟩]
      have h1' : ((decide (b < a) || decide (a < -9223372036854775808) || decide (9223372036854775807 < b)) = false) := by simpa using h1
      have h2' : ((decide (d < c) || decide (c < -9223372036854775808) || decide (9223372036854775807 < d)) = false) := by simpa using h2
      have e9 : effS 6 1 a b c d = (if shSome 1 c d then br 1 (q4 shlF a b (max c 0) (min d (topK 1))).1 (q4 shlF a b (max c 0) (min d (topK 1))).2 ++ [1, 0, shU 1 c d] else [0, 0, 0, 0, shU 1 c d]) := rfl
      rw [e9]
      have et : topK 1 = 63 := by decide
      rw [et]
      have su : (if (!(shU 1 c d == 0)) = true then (1 : Int) else 0) = shU 1 c d := by unfold shU; split <;> rfl
      have sa := shr63_hiW ha
      have sb := shr63_hiW hb
      have la : ∀ x : Int, x % 18446744073709551616 = loW x := fun _ => rfl
      by_cases hs : shSome 1 c d
      · have e0 : amountS [1, c, d] = some [0, 0, 1, 0, shU 1 c d, max c 0, min d 63] := (amount_pos hs).trans (by rw [et])
        have hs' : max c 0 ≤ min d 63 := by unfold shSome at hs; rwa [et] at hs
        have e1 := shift_eq (m := max c 0) ha (by omega) (by omega)
        have e2 := shift_eq (m := min d 63) ha (by omega) (by omega)
        have e3 := shift_eq (m := max c 0) hb (by omega) (by omega)
        have e4 := shift_eq (m := min d 63) hb (by omega) (by omega)
        simp only [t15x6k1, T.den, B.den, A.den, E.den, Cm.den, List.map, List.getD_cons_zero, List.getD_cons_succ, List.cons_append, List.nil_append, g71, g73, e0, e1, e2, e3, e4, List.length_cons, List.length_nil, Nat.zero_add, Nat.reduceAdd, if_true, if_false, Bool.false_eq_true, h1', h2', wrap64, wrapU, shr63, shr8, shr8', and255, sa, sb, la, fitB, mn_eq, mx_eq, min_self', max_self', su, hs]
        exact into4r_1 (r := [1, 0, shU 1 c d, 0])
      · have e0 : amountS [1, c, d] = some [0, 0, 0, 0, shU 1 c d, 0, 0] := amount_neg hs
        simp only [t15x6k1, T.den, B.den, A.den, E.den, Cm.den, List.map, List.getD_cons_zero, List.getD_cons_succ, List.cons_append, List.nil_append, g71, e0, List.length_cons, List.length_nil, Nat.zero_add, Nat.reduceAdd, if_true, if_false, Bool.false_eq_true, h1', h2', su, hs]
        rfl
theorem d15x6k2 {F : Nat → List Int → Option (List Int)} {a b c d : Int} (g60 : F 60 = plusS) (g45 : F 45 = minusS) (g65 : F 65 = timesS) (g73 : F 73 = shiftS) (g67 : F 67 = quotS) (g69 : F 69 = restS) (g71 : F 71 = amountS) (g97 : F 97 = lenS) (hr : in4 a b c d) : t15x6k2.den F 0 [6, 2, a, b, c, d] = some (0, binR 6 2 a b c d) := by
  obtain ⟨ha, hb, hc, hd⟩ := hr
  have ok1 := okR2 (a := a) (b := b)
  have ok2 := okR2 (a := c) (b := d)
  by_cases h1 : (b < a ∨ a < 0) ∨ 255 < b
  · rw [binR_no (fun h => ok1.1 h.2.1 h1)]
    simp [t15x6k2, T.den, B.den, A.den, E.den, Cm.den, h1]
  · by_cases h2 : (d < c ∨ c < 0) ∨ 255 < d
    · rw [binR_no (fun h => ok2.1 h.2.2 h2)]
      simp [t15x6k2, T.den, B.den, A.den, E.den, Cm.den, h1, h2]
    · have o1 : okR 2 a b := ok1.2 h1
      have o2 : okR 2 c d := ok2.2 h2
      have hab := o1.2
      have hcd := o2.2
      rw [binR_ok ⟨by decide, o1, o2⟩]
      have h1' : ((decide (b < a) || decide (a < 0) || decide (255 < b)) = false) := by simpa using h1
      have h2' : ((decide (d < c) || decide (c < 0) || decide (255 < d)) = false) := by simpa using h2
      have e9 : effS 6 2 a b c d = (if shSome 2 c d then br 2 (q4 shlF a b (max c 0) (min d (topK 2))).1 (q4 shlF a b (max c 0) (min d (topK 2))).2 ++ [1, 0, shU 2 c d] else [0, 0, 0, 0, shU 2 c d]) := rfl
      rw [e9]
      have et : topK 2 = 7 := by decide
      rw [et]
      have su : (if (!(shU 2 c d == 0)) = true then (1 : Int) else 0) = shU 2 c d := by unfold shU; split <;> rfl
      have sa := shr63_hiW ha
      have sb := shr63_hiW hb
      have la : ∀ x : Int, x % 18446744073709551616 = loW x := fun _ => rfl
      by_cases hs : shSome 2 c d
      · have e0 : amountS [2, c, d] = some [0, 0, 1, 0, shU 2 c d, max c 0, min d 7] := (amount_pos hs).trans (by rw [et])
        have hs' : max c 0 ≤ min d 7 := by unfold shSome at hs; rwa [et] at hs
        have e1 := shift_eq (m := max c 0) ha (by omega) (by omega)
        have e2 := shift_eq (m := min d 7) ha (by omega) (by omega)
        have e3 := shift_eq (m := max c 0) hb (by omega) (by omega)
        have e4 := shift_eq (m := min d 7) hb (by omega) (by omega)
        simp only [t15x6k2, T.den, B.den, A.den, E.den, Cm.den, List.map, List.getD_cons_zero, List.getD_cons_succ, List.cons_append, List.nil_append, g71, g73, e0, e1, e2, e3, e4, List.length_cons, List.length_nil, Nat.zero_add, Nat.reduceAdd, if_true, if_false, Bool.false_eq_true, h1', h2', wrap64, wrapU, shr63, shr8, shr8', and255, sa, sb, la, fitB, mn_eq, mx_eq, min_self', max_self', su, hs]
        exact into4r_2 (r := [1, 0, shU 2 c d, 0])
      · have e0 : amountS [2, c, d] = some [0, 0, 0, 0, shU 2 c d, 0, 0] := amount_neg hs
        simp only [t15x6k2, T.den, B.den, A.den, E.den, Cm.den, List.map, List.getD_cons_zero, List.getD_cons_succ, List.cons_append, List.nil_append, g71, e0, List.length_cons, List.length_nil, Nat.zero_add, Nat.reduceAdd, if_true, if_false, Bool.false_eq_true, h1', h2', su, hs]
        rfl
theorem d15x6k3 {F : Nat → List Int → Option (List Int)} {a b c d : Int} (g60 : F 60 = plusS) (g45 : F 45 = minusS) (g65 : F 65 = timesS) (g73 : F 73 = shiftS) (g67 : F 67 = quotS) (g69 : F 69 = restS) (g71 : F 71 = amountS) (g97 : F 97 = lenS) (hr : in4 a b c d) : t15x6k3.den F 0 [6, 3, a, b, c, d] = some (0, binR 6 3 a b c d) := by
  obtain ⟨ha, hb, hc, hd⟩ := hr
  have ok1 := okR3 (a := a) (b := b)
  have ok2 := okR3 (a := c) (b := d)
  rw [binR_no (by unfold okB fitsB; omega)]
  by_cases h1 : (b < a ∨ a < 0) ∨ 1 < b
  · simp [t15x6k3, T.den, B.den, A.den, E.den, Cm.den, h1]
  · by_cases h2 : (d < c ∨ c < 0) ∨ 1 < d <;> simp [t15x6k3, T.den, B.den, A.den, E.den, Cm.den, h1, h2]
theorem d15x7k1 {F : Nat → List Int → Option (List Int)} {a b c d : Int} (g60 : F 60 = plusS) (g45 : F 45 = minusS) (g65 : F 65 = timesS) (g73 : F 73 = shiftS) (g67 : F 67 = quotS) (g69 : F 69 = restS) (g71 : F 71 = amountS) (g97 : F 97 = lenS) (hr : in4 a b c d) : t15x7k1.den F 0 [7, 1, a, b, c, d] = some (0, binR 7 1 a b c d) := by
  obtain ⟨ha, hb, hc, hd⟩ := hr
  have ok1 := okR1 ha hb
  have ok2 := okR1 hc hd
  by_cases h1 : (b < a ∨ a < -9223372036854775808) ∨ 9223372036854775807 < b
  · rw [binR_no (fun h => ok1.1 h.2.1 h1)]
    simp [t15x7k1, T.den, B.den, A.den, E.den, Cm.den, h1]
  · by_cases h2 : (d < c ∨ c < -9223372036854775808) ∨ 9223372036854775807 < d
    · rw [binR_no (fun h => ok2.1 h.2.2 h2)]
      simp [t15x7k1, T.den, B.den, A.den, E.den, Cm.den, h1, h2]
    · have o1 : okR 1 a b := ok1.2 h1
      have o2 : okR 1 c d := ok2.2 h2
      have hab := o1.2
      have hcd := o2.2
      rw [binR_ok ⟨by decide, o1, o2⟩]
      have h1' : ((decide (b < a) || decide (a < -9223372036854775808) || decide (9223372036854775807 < b)) = false) := by simpa using h1
      have h2' : ((decide (d < c) || decide (c < -9223372036854775808) || decide (9223372036854775807 < d)) = false) := by simpa using h2
      have e9 : effS 7 1 a b c d = (if shSome 1 c d then [(q4 shrF a b (max c 0) (min d (topK 1))).1, (q4 shrF a b (max c 0) (min d (topK 1))).2, 1, 0, shU 1 c d] else [0, 0, 0, 0, shU 1 c d]) := rfl
      rw [e9]
      have et : topK 1 = 63 := by decide
      rw [et]
      have su : (if (!(shU 1 c d == 0)) = true then (1 : Int) else 0) = shU 1 c d := by unfold shU; split <;> rfl
      by_cases hs : shSome 1 c d
      · have e0 : amountS [1, c, d] = some [0, 0, 1, 0, shU 1 c d, max c 0, min d 63] := (amount_pos hs).trans (by rw [et])
        have hs' : max c 0 ≤ min d 63 := by unfold shSome at hs; rwa [et] at hs
        have r1 : max c 0 % 18446744073709551616 = max c 0 := by omega
        have r2 : min d 63 % 18446744073709551616 = min d 63 := by omega
        have n1 : ¬ max c 0 < 0 := by omega
        have n2 : ¬ min d 63 < 0 := by omega
        have s1 : ∀ x, Int.fdiv x (2 ^ (min (max c 0).toNat IntKind.i64.bits)) = shrF x (max c 0) := fun x => fdiv_shr x (by omega) (by omega)
        have s2 : ∀ x, Int.fdiv x (2 ^ (min (min d 63).toNat IntKind.i64.bits)) = shrF x (min d 63) := fun x => fdiv_shr x (by omega) (by omega)
        simp only [t15x7k1, T.den, B.den, A.den, E.den, Cm.den, List.map, List.getD_cons_zero, List.getD_cons_succ, List.cons_append, List.nil_append, g71, e0, List.length_cons, List.length_nil, Nat.zero_add, Nat.reduceAdd, if_true, if_false, Bool.false_eq_true, h1', h2', wrapU, r1, r2, decide_eq_true_eq, n1, n2, s1, s2, mn_eq, mx_eq, min_self', max_self', su, hs]
        rfl
      · have e0 : amountS [1, c, d] = some [0, 0, 0, 0, shU 1 c d, 0, 0] := amount_neg hs
        simp only [t15x7k1, T.den, B.den, A.den, E.den, Cm.den, List.map, List.getD_cons_zero, List.getD_cons_succ, List.cons_append, List.nil_append, g71, e0, List.length_cons, List.length_nil, Nat.zero_add, Nat.reduceAdd, if_true, if_false, Bool.false_eq_true, h1', h2', su, hs]
        rfl
theorem d15x7k2 {F : Nat → List Int → Option (List Int)} {a b c d : Int} (g60 : F 60 = plusS) (g45 : F 45 = minusS) (g65 : F 65 = timesS) (g73 : F 73 = shiftS) (g67 : F 67 = quotS) (g69 : F 69 = restS) (g71 : F 71 = amountS) (g97 : F 97 = lenS) (hr : in4 a b c d) : t15x7k2.den F 0 [7, 2, a, b, c, d] = some (0, binR 7 2 a b c d) := by
  obtain ⟨ha, hb, hc, hd⟩ := hr
  have ok1 := okR2 (a := a) (b := b)
  have ok2 := okR2 (a := c) (b := d)
  by_cases h1 : (b < a ∨ a < 0) ∨ 255 < b
  · rw [binR_no (fun h => ok1.1 h.2.1 h1)]
    simp [t15x7k2, T.den, B.den, A.den, E.den, Cm.den, h1]
  · by_cases h2 : (d < c ∨ c < 0) ∨ 255 < d
    · rw [binR_no (fun h => ok2.1 h.2.2 h2)]
      simp [t15x7k2, T.den, B.den, A.den, E.den, Cm.den, h1, h2]
    · have o1 : okR 2 a b := ok1.2 h1
      have o2 : okR 2 c d := ok2.2 h2
      have hab := o1.2
      have hcd := o2.2
      rw [binR_ok ⟨by decide, o1, o2⟩]
      have h1' : ((decide (b < a) || decide (a < 0) || decide (255 < b)) = false) := by simpa using h1
      have h2' : ((decide (d < c) || decide (c < 0) || decide (255 < d)) = false) := by simpa using h2
      have e9 : effS 7 2 a b c d = (if shSome 2 c d then [(q4 shrF a b (max c 0) (min d (topK 2))).1, (q4 shrF a b (max c 0) (min d (topK 2))).2, 1, 0, shU 2 c d] else [0, 0, 0, 0, shU 2 c d]) := rfl
      rw [e9]
      have et : topK 2 = 7 := by decide
      rw [et]
      have su : (if (!(shU 2 c d == 0)) = true then (1 : Int) else 0) = shU 2 c d := by unfold shU; split <;> rfl
      by_cases hs : shSome 2 c d
      · have e0 : amountS [2, c, d] = some [0, 0, 1, 0, shU 2 c d, max c 0, min d 7] := (amount_pos hs).trans (by rw [et])
        have hs' : max c 0 ≤ min d 7 := by unfold shSome at hs; rwa [et] at hs
        have r1 : max c 0 % 18446744073709551616 = max c 0 := by omega
        have r2 : min d 7 % 18446744073709551616 = min d 7 := by omega
        have n1 : ¬ max c 0 < 0 := by omega
        have n2 : ¬ min d 7 < 0 := by omega
        have s1 : ∀ x, Int.fdiv x (2 ^ (min (max c 0).toNat IntKind.i64.bits)) = shrF x (max c 0) := fun x => fdiv_shr x (by omega) (by omega)
        have s2 : ∀ x, Int.fdiv x (2 ^ (min (min d 7).toNat IntKind.i64.bits)) = shrF x (min d 7) := fun x => fdiv_shr x (by omega) (by omega)
        simp only [t15x7k2, T.den, B.den, A.den, E.den, Cm.den, List.map, List.getD_cons_zero, List.getD_cons_succ, List.cons_append, List.nil_append, g71, e0, List.length_cons, List.length_nil, Nat.zero_add, Nat.reduceAdd, if_true, if_false, Bool.false_eq_true, h1', h2', wrapU, r1, r2, decide_eq_true_eq, n1, n2, s1, s2, mn_eq, mx_eq, min_self', max_self', su, hs]
        rfl
      · have e0 : amountS [2, c, d] = some [0, 0, 0, 0, shU 2 c d, 0, 0] := amount_neg hs
        simp only [t15x7k2, T.den, B.den, A.den, E.den, Cm.den, List.map, List.getD_cons_zero, List.getD_cons_succ, List.cons_append, List.nil_append, g71, e0, List.length_cons, List.length_nil, Nat.zero_add, Nat.reduceAdd, if_true, if_false, Bool.false_eq_true, h1', h2', su, hs]
        rfl
theorem d15x7k3 {F : Nat → List Int → Option (List Int)} {a b c d : Int} (g60 : F 60 = plusS) (g45 : F 45 = minusS) (g65 : F 65 = timesS) (g73 : F 73 = shiftS) (g67 : F 67 = quotS) (g69 : F 69 = restS) (g71 : F 71 = amountS) (g97 : F 97 = lenS) (hr : in4 a b c d) : t15x7k3.den F 0 [7, 3, a, b, c, d] = some (0, binR 7 3 a b c d) := by
  obtain ⟨ha, hb, hc, hd⟩ := hr
  have ok1 := okR3 (a := a) (b := b)
  have ok2 := okR3 (a := c) (b := d)
  rw [binR_no (by unfold okB fitsB; omega)]
  by_cases h1 : (b < a ∨ a < 0) ∨ 1 < b
  · simp [t15x7k3, T.den, B.den, A.den, E.den, Cm.den, h1]
  · by_cases h2 : (d < c ∨ c < 0) ∨ 1 < d <;> simp [t15x7k3, T.den, B.den, A.den, E.den, Cm.den, h1, h2]
end Go.SXR

/- RANGES: Binary of the program, sums, differences, products. -/
import Derived.Test.YtncaejnkpmmoeaaDoorSxB30
import Derived.Test.YtncaejnkpmmoeaaDoorSxT4a
set_option linter.unusedVariables false
set_option linter.unusedSimpArgs false
namespace Go.SXR
open Go Go.SX Go.Proofs Go.RowKit

theorem d15x1k1 {F : Nat → List Int → Option (List Int)} {a b c d : Int} (g60 : F 60 = plusS) (g45 : F 45 = minusS) (g65 : F 65 = timesS) (g73 : F 73 = shiftS) (g67 : F 67 = quotS) (g69 : F 69 = restS) (g71 : F 71 = amountS) (g97 : F 97 = lenS) (hr : in4 a b c d) : t15x1k1.den F 0 [1, 1, a, b, c, d] = some (0, binR 1 1 a b c d) := by
  obtain ⟨ha, hb, hc, hd⟩ := hr
  have ok1 := okR1 ha hb
  have ok2 := okR1 hc hd
  by_cases h1 : (b < a ∨ a < -9223372036854775808) ∨ 9223372036854775807 < b
  · rw [binR_no (fun h => ok1.1 h.2.1 h1)]
    simp [t15x1k1, T.den, B.den, A.den, E.den, Cm.den, h1]
  · by_cases h2 : (d < c ∨ c < -9223372036854775808) ∨ 9223372036854775807 < d
    · rw [binR_no (fun h => ok2.1 h.2.2 h2)]
      simp [t15x1k1, T.den, B.den, A.den, E.den, Cm.den, h1, h2]
    · have o1 : okR 1 a b := ok1.2 h1
      have o2 : okR 1 c d := ok2.2 h2
      have hab := o1.2
      have hcd := o2.2
      rw [binR_ok ⟨by decide, o1, o2⟩]
      have h1' : ((decide (b < a) || decide (a < -9223372036854775808) || decide (9223372036854775807 < b)) = false) := by simpa using h1
      have h2' : ((decide (d < c) || decide (c < -9223372036854775808) || decide (9223372036854775807 < d)) = false) := by simpa using h2
      have sa := shr63_hiW ha
      have sb := shr63_hiW hb
      have sc := shr63_hiW hc
      have sd := shr63_hiW hd
      have la : ∀ x : Int, x % 18446744073709551616 = loW x := fun _ => rfl
      have e1 := times_eq ha hc
      have e2 := times_eq ha hd
      have e3 := times_eq hb hc
      have e4 := times_eq hb hd
      simp only [t15x1k1, T.den, B.den, A.den, E.den, Cm.den, List.map, List.getD_cons_zero, List.getD_cons_succ, List.cons_append, List.nil_append, g60, g45, g65, e1, e2, e3, e4, List.length_cons, List.length_nil, Nat.zero_add, Nat.reduceAdd, if_true, if_false, Bool.false_eq_true, h1', h2', wrap64, wrapU, shr63, shr8, shr8', and255, sa, sb, sc, sd, la, fitB, mn_eq, mx_eq, min_self', max_self']
      have e9 : effS 1 1 a b c d = br 1 (q4 (· * ·) a b c d).1 (q4 (· * ·) a b c d).2 ++ [1, 0, 0] := rfl
      rw [e9]
      exact into4r_1 (r := [1, 0, 0, 0])
theorem d15x1k2 {F : Nat → List Int → Option (List Int)} {a b c d : Int} (g60 : F 60 = plusS) (g45 : F 45 = minusS) (g65 : F 65 = timesS) (g73 : F 73 = shiftS) (g67 : F 67 = quotS) (g69 : F 69 = restS) (g71 : F 71 = amountS) (g97 : F 97 = lenS) (hr : in4 a b c d) : t15x1k2.den F 0 [1, 2, a, b, c, d] = some (0, binR 1 2 a b c d) := by
  obtain ⟨ha, hb, hc, hd⟩ := hr
  have ok1 := okR2 (a := a) (b := b)
  have ok2 := okR2 (a := c) (b := d)
  by_cases h1 : (b < a ∨ a < 0) ∨ 255 < b
  · rw [binR_no (fun h => ok1.1 h.2.1 h1)]
    simp [t15x1k2, T.den, B.den, A.den, E.den, Cm.den, h1]
  · by_cases h2 : (d < c ∨ c < 0) ∨ 255 < d
    · rw [binR_no (fun h => ok2.1 h.2.2 h2)]
      simp [t15x1k2, T.den, B.den, A.den, E.den, Cm.den, h1, h2]
    · have o1 : okR 2 a b := ok1.2 h1
      have o2 : okR 2 c d := ok2.2 h2
      have hab := o1.2
      have hcd := o2.2
      rw [binR_ok ⟨by decide, o1, o2⟩]
      have h1' : ((decide (b < a) || decide (a < 0) || decide (255 < b)) = false) := by simpa using h1
      have h2' : ((decide (d < c) || decide (c < 0) || decide (255 < d)) = false) := by simpa using h2
      have sa := shr63_hiW ha
      have sb := shr63_hiW hb
      have sc := shr63_hiW hc
      have sd := shr63_hiW hd
      have la : ∀ x : Int, x % 18446744073709551616 = loW x := fun _ => rfl
      have e1 := times_eq ha hc
      have e2 := times_eq ha hd
      have e3 := times_eq hb hc
      have e4 := times_eq hb hd
      simp only [t15x1k2, T.den, B.den, A.den, E.den, Cm.den, List.map, List.getD_cons_zero, List.getD_cons_succ, List.cons_append, List.nil_append, g60, g45, g65, e1, e2, e3, e4, List.length_cons, List.length_nil, Nat.zero_add, Nat.reduceAdd, if_true, if_false, Bool.false_eq_true, h1', h2', wrap64, wrapU, shr63, shr8, shr8', and255, sa, sb, sc, sd, la, fitB, mn_eq, mx_eq, min_self', max_self']
      have e9 : effS 1 2 a b c d = br 2 (q4 (· * ·) a b c d).1 (q4 (· * ·) a b c d).2 ++ [1, 0, 0] := rfl
      rw [e9]
      exact into4r_2 (r := [1, 0, 0, 0])
theorem d15x1k3 {F : Nat → List Int → Option (List Int)} {a b c d : Int} (g60 : F 60 = plusS) (g45 : F 45 = minusS) (g65 : F 65 = timesS) (g73 : F 73 = shiftS) (g67 : F 67 = quotS) (g69 : F 69 = restS) (g71 : F 71 = amountS) (g97 : F 97 = lenS) (hr : in4 a b c d) : t15x1k3.den F 0 [1, 3, a, b, c, d] = some (0, binR 1 3 a b c d) := by
  obtain ⟨ha, hb, hc, hd⟩ := hr
  have ok1 := okR3 (a := a) (b := b)
  have ok2 := okR3 (a := c) (b := d)
  rw [binR_no (by unfold okB fitsB; omega)]
  by_cases h1 : (b < a ∨ a < 0) ∨ 1 < b
  · simp [t15x1k3, T.den, B.den, A.den, E.den, Cm.den, h1]
  · by_cases h2 : (d < c ∨ c < 0) ∨ 1 < d <;> simp [t15x1k3, T.den, B.den, A.den, E.den, Cm.den, h1, h2]
theorem d15x4k1 {F : Nat → List Int → Option (List Int)} {a b c d : Int} (g60 : F 60 = plusS) (g45 : F 45 = minusS) (g65 : F 65 = timesS) (g73 : F 73 = shiftS) (g67 : F 67 = quotS) (g69 : F 69 = restS) (g71 : F 71 = amountS) (g97 : F 97 = lenS) (hr : in4 a b c d) : t15x4k1.den F 0 [4, 1, a, b, c, d] = some (0, binR 4 1 a b c d) := by
  obtain ⟨ha, hb, hc, hd⟩ := hr
  have ok1 := okR1 ha hb
  have ok2 := okR1 hc hd
  by_cases h1 : (b < a ∨ a < -9223372036854775808) ∨ 9223372036854775807 < b
  · rw [binR_no (fun h => ok1.1 h.2.1 h1)]
    simp [t15x4k1, T.den, B.den, A.den, E.den, Cm.den, h1]
  · by_cases h2 : (d < c ∨ c < -9223372036854775808) ∨ 9223372036854775807 < d
    · rw [binR_no (fun h => ok2.1 h.2.2 h2)]
      simp [t15x4k1, T.den, B.den, A.den, E.den, Cm.den, h1, h2]
    · have o1 : okR 1 a b := ok1.2 h1
      have o2 : okR 1 c d := ok2.2 h2
      have hab := o1.2
      have hcd := o2.2
      rw [binR_ok ⟨by decide, o1, o2⟩]
      have h1' : ((decide (b < a) || decide (a < -9223372036854775808) || decide (9223372036854775807 < b)) = false) := by simpa using h1
      have h2' : ((decide (d < c) || decide (c < -9223372036854775808) || decide (9223372036854775807 < d)) = false) := by simpa using h2
      have sa := shr63_hiW ha
      have sb := shr63_hiW hb
      have sc := shr63_hiW hc
      have sd := shr63_hiW hd
      have la : ∀ x : Int, x % 18446744073709551616 = loW x := fun _ => rfl
      have e1 := plus_w (x := a) (y := c) (by unfold inI at *; unfold big; omega)
      have e2 := plus_w (x := b) (y := d) (by unfold inI at *; unfold big; omega)
      simp only [t15x4k1, T.den, B.den, A.den, E.den, Cm.den, List.map, List.getD_cons_zero, List.getD_cons_succ, List.cons_append, List.nil_append, g60, g45, g65, e1, e2, List.length_cons, List.length_nil, Nat.zero_add, Nat.reduceAdd, if_true, if_false, Bool.false_eq_true, h1', h2', wrap64, wrapU, shr63, shr8, shr8', and255, sa, sb, sc, sd, la, fitB, mn_eq, mx_eq, min_self', max_self']
      have e9 : effS 4 1 a b c d = br 1 (a + c) (b + d) ++ [1, 0, 0] := rfl
      rw [e9]
      exact into2_1 (by omega)
theorem d15x4k2 {F : Nat → List Int → Option (List Int)} {a b c d : Int} (g60 : F 60 = plusS) (g45 : F 45 = minusS) (g65 : F 65 = timesS) (g73 : F 73 = shiftS) (g67 : F 67 = quotS) (g69 : F 69 = restS) (g71 : F 71 = amountS) (g97 : F 97 = lenS) (hr : in4 a b c d) : t15x4k2.den F 0 [4, 2, a, b, c, d] = some (0, binR 4 2 a b c d) := by
  obtain ⟨ha, hb, hc, hd⟩ := hr
  have ok1 := okR2 (a := a) (b := b)
  have ok2 := okR2 (a := c) (b := d)
  by_cases h1 : (b < a ∨ a < 0) ∨ 255 < b
  · rw [binR_no (fun h => ok1.1 h.2.1 h1)]
    simp [t15x4k2, T.den, B.den, A.den, E.den, Cm.den, h1]
  · by_cases h2 : (d < c ∨ c < 0) ∨ 255 < d
    · rw [binR_no (fun h => ok2.1 h.2.2 h2)]
      simp [t15x4k2, T.den, B.den, A.den, E.den, Cm.den, h1, h2]
    · have o1 : okR 2 a b := ok1.2 h1
      have o2 : okR 2 c d := ok2.2 h2
      have hab := o1.2
      have hcd := o2.2
      rw [binR_ok ⟨by decide, o1, o2⟩]
      have h1' : ((decide (b < a) || decide (a < 0) || decide (255 < b)) = false) := by simpa using h1
      have h2' : ((decide (d < c) || decide (c < 0) || decide (255 < d)) = false) := by simpa using h2
      have sa := shr63_hiW ha
      have sb := shr63_hiW hb
      have sc := shr63_hiW hc
      have sd := shr63_hiW hd
      have la : ∀ x : Int, x % 18446744073709551616 = loW x := fun _ => rfl
      have e1 := plus_w (x := a) (y := c) (by unfold inI at *; unfold big; omega)
      have e2 := plus_w (x := b) (y := d) (by unfold inI at *; unfold big; omega)
      simp only [t15x4k2, T.den, B.den, A.den, E.den, Cm.den, List.map, List.getD_cons_zero, List.getD_cons_succ, List.cons_append, List.nil_append, g60, g45, g65, e1, e2, List.length_cons, List.length_nil, Nat.zero_add, Nat.reduceAdd, if_true, if_false, Bool.false_eq_true, h1', h2', wrap64, wrapU, shr63, shr8, shr8', and255, sa, sb, sc, sd, la, fitB, mn_eq, mx_eq, min_self', max_self']
      have e9 : effS 4 2 a b c d = br 2 (a + c) (b + d) ++ [1, 0, 0] := rfl
      rw [e9]
      exact into2_2 (by omega)
theorem d15x4k3 {F : Nat → List Int → Option (List Int)} {a b c d : Int} (g60 : F 60 = plusS) (g45 : F 45 = minusS) (g65 : F 65 = timesS) (g73 : F 73 = shiftS) (g67 : F 67 = quotS) (g69 : F 69 = restS) (g71 : F 71 = amountS) (g97 : F 97 = lenS) (hr : in4 a b c d) : t15x4k3.den F 0 [4, 3, a, b, c, d] = some (0, binR 4 3 a b c d) := by
  obtain ⟨ha, hb, hc, hd⟩ := hr
  have ok1 := okR3 (a := a) (b := b)
  have ok2 := okR3 (a := c) (b := d)
  rw [binR_no (by unfold okB fitsB; omega)]
  by_cases h1 : (b < a ∨ a < 0) ∨ 1 < b
  · simp [t15x4k3, T.den, B.den, A.den, E.den, Cm.den, h1]
  · by_cases h2 : (d < c ∨ c < 0) ∨ 1 < d <;> simp [t15x4k3, T.den, B.den, A.den, E.den, Cm.den, h1, h2]
theorem d15x5k1 {F : Nat → List Int → Option (List Int)} {a b c d : Int} (g60 : F 60 = plusS) (g45 : F 45 = minusS) (g65 : F 65 = timesS) (g73 : F 73 = shiftS) (g67 : F 67 = quotS) (g69 : F 69 = restS) (g71 : F 71 = amountS) (g97 : F 97 = lenS) (hr : in4 a b c d) : t15x5k1.den F 0 [5, 1, a, b, c, d] = some (0, binR 5 1 a b c d) := by
  obtain ⟨ha, hb, hc, hd⟩ := hr
  have ok1 := okR1 ha hb
  have ok2 := okR1 hc hd
  by_cases h1 : (b < a ∨ a < -9223372036854775808) ∨ 9223372036854775807 < b
  · rw [binR_no (fun h => ok1.1 h.2.1 h1)]
    simp [t15x5k1, T.den, B.den, A.den, E.den, Cm.den, h1]
  · by_cases h2 : (d < c ∨ c < -9223372036854775808) ∨ 9223372036854775807 < d
    · rw [binR_no (fun h => ok2.1 h.2.2 h2)]
      simp [t15x5k1, T.den, B.den, A.den, E.den, Cm.den, h1, h2]
    · have o1 : okR 1 a b := ok1.2 h1
      have o2 : okR 1 c d := ok2.2 h2
      have hab := o1.2
      have hcd := o2.2
      rw [binR_ok ⟨by decide, o1, o2⟩]
      have h1' : ((decide (b < a) || decide (a < -9223372036854775808) || decide (9223372036854775807 < b)) = false) := by simpa using h1
      have h2' : ((decide (d < c) || decide (c < -9223372036854775808) || decide (9223372036854775807 < d)) = false) := by simpa using h2
      have sa := shr63_hiW ha
      have sb := shr63_hiW hb
      have sc := shr63_hiW hc
      have sd := shr63_hiW hd
      have la : ∀ x : Int, x % 18446744073709551616 = loW x := fun _ => rfl
      have e1 := plus_w (x := a) (y := -d) (by unfold inI at *; unfold big; omega)
      have e2 := plus_w (x := b) (y := -c) (by unfold inI at *; unfold big; omega)
      have e3 := minus_w (x := d) (by unfold inI at *; unfold big; omega)
      have e4 := minus_w (x := c) (by unfold inI at *; unfold big; omega)
      simp only [t15x5k1, T.den, B.den, A.den, E.den, Cm.den, List.map, List.getD_cons_zero, List.getD_cons_succ, List.cons_append, List.nil_append, g60, g45, g65, e1, e2, e3, e4, List.length_cons, List.length_nil, Nat.zero_add, Nat.reduceAdd, if_true, if_false, Bool.false_eq_true, h1', h2', wrap64, wrapU, shr63, shr8, shr8', and255, sa, sb, sc, sd, la, fitB, mn_eq, mx_eq, min_self', max_self']
      rw [show a + -d = a - d by omega, show b + -c = b - c by omega]
      have e9 : effS 5 1 a b c d = br 1 (a - d) (b - c) ++ [1, 0, 0] := rfl
      rw [e9]
      exact into2_1 (by omega)
theorem d15x5k2 {F : Nat → List Int → Option (List Int)} {a b c d : Int} (g60 : F 60 = plusS) (g45 : F 45 = minusS) (g65 : F 65 = timesS) (g73 : F 73 = shiftS) (g67 : F 67 = quotS) (g69 : F 69 = restS) (g71 : F 71 = amountS) (g97 : F 97 = lenS) (hr : in4 a b c d) : t15x5k2.den F 0 [5, 2, a, b, c, d] = some (0, binR 5 2 a b c d) := by
  obtain ⟨ha, hb, hc, hd⟩ := hr
  have ok1 := okR2 (a := a) (b := b)
  have ok2 := okR2 (a := c) (b := d)
  by_cases h1 : (b < a ∨ a < 0) ∨ 255 < b
  · rw [binR_no (fun h => ok1.1 h.2.1 h1)]
    simp [t15x5k2, T.den, B.den, A.den, E.den, Cm.den, h1]
  · by_cases h2 : (d < c ∨ c < 0) ∨ 255 < d
    · rw [binR_no (fun h => ok2.1 h.2.2 h2)]
      simp [t15x5k2, T.den, B.den, A.den, E.den, Cm.den, h1, h2]
    · have o1 : okR 2 a b := ok1.2 h1
      have o2 : okR 2 c d := ok2.2 h2
      have hab := o1.2
      have hcd := o2.2
      rw [binR_ok ⟨by decide, o1, o2⟩]
      have h1' : ((decide (b < a) || decide (a < 0) || decide (255 < b)) = false) := by simpa using h1
      have h2' : ((decide (d < c) || decide (c < 0) || decide (255 < d)) = false) := by simpa using h2
      have sa := shr63_hiW ha
      have sb := shr63_hiW hb
      have sc := shr63_hiW hc
      have sd := shr63_hiW hd
      have la : ∀ x : Int, x % 18446744073709551616 = loW x := fun _ => rfl
      have e1 := plus_w (x := a) (y := -d) (by unfold inI at *; unfold big; omega)
      have e2 := plus_w (x := b) (y := -c) (by unfold inI at *; unfold big; omega)
      have e3 := minus_w (x := d) (by unfold inI at *; unfold big; omega)
      have e4 := minus_w (x := c) (by unfold inI at *; unfold big; omega)
      simp only [t15x5k2, T.den, B.den, A.den, E.den, Cm.den, List.map, List.getD_cons_zero, List.getD_cons_succ, List.cons_append, List.nil_append, g60, g45, g65, e1, e2, e3, e4, List.length_cons, List.length_nil, Nat.zero_add, Nat.reduceAdd, if_true, if_false, Bool.false_eq_true, h1', h2', wrap64, wrapU, shr63, shr8, shr8', and255, sa, sb, sc, sd, la, fitB, mn_eq, mx_eq, min_self', max_self']
      rw [show a + -d = a - d by omega, show b + -c = b - c by omega]
      have e9 : effS 5 2 a b c d = br 2 (a - d) (b - c) ++ [1, 0, 0] := rfl
      rw [e9]
      exact into2_2 (by omega)
theorem d15x5k3 {F : Nat → List Int → Option (List Int)} {a b c d : Int} (g60 : F 60 = plusS) (g45 : F 45 = minusS) (g65 : F 65 = timesS) (g73 : F 73 = shiftS) (g67 : F 67 = quotS) (g69 : F 69 = restS) (g71 : F 71 = amountS) (g97 : F 97 = lenS) (hr : in4 a b c d) : t15x5k3.den F 0 [5, 3, a, b, c, d] = some (0, binR 5 3 a b c d) := by
  obtain ⟨ha, hb, hc, hd⟩ := hr
  have ok1 := okR3 (a := a) (b := b)
  have ok2 := okR3 (a := c) (b := d)
  rw [binR_no (by unfold okB fitsB; omega)]
  by_cases h1 : (b < a ∨ a < 0) ∨ 1 < b
  · simp [t15x5k3, T.den, B.den, A.den, E.den, Cm.den, h1]
  · by_cases h2 : (d < c ∨ c < 0) ∨ 1 < d <;> simp [t15x5k3, T.den, B.den, A.den, E.den, Cm.den, h1, h2]
end Go.SXR

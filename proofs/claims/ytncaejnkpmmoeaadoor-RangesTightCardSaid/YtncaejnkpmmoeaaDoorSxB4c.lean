/- RANGES: Binary of the program, quotients, remainders, bits. -/
import Derived.Test.YtncaejnkpmmoeaaDoorSxB30
import Derived.Test.YtncaejnkpmmoeaaDoorSxT4c
set_option linter.unusedVariables false
set_option linter.unusedSimpArgs false
namespace Go.SXR
open Go Go.SX Go.Proofs Go.RowKit

theorem d15x2k1 {F : Nat → List Int → Option (List Int)} {a b c d : Int} (g60 : F 60 = plusS) (g45 : F 45 = minusS) (g65 : F 65 = timesS) (g73 : F 73 = shiftS) (g67 : F 67 = quotS) (g69 : F 69 = restS) (g71 : F 71 = amountS) (g97 : F 97 = lenS) (hr : in4 a b c d) : t15x2k1.den F 0 [2, 1, a, b, c, d] = some (0, binR 2 1 a b c d) := by
  obtain ⟨ha, hb, hc, hd⟩ := hr
  have ok1 := okR1 ha hb
  have ok2 := okR1 hc hd
  by_cases h1 : (b < a ∨ a < -9223372036854775808) ∨ 9223372036854775807 < b
  · rw [binR_no (fun h => ok1.1 h.2.1 h1)]
    simp [t15x2k1, T.den, B.den, A.den, E.den, Cm.den, h1]
  · by_cases h2 : (d < c ∨ c < -9223372036854775808) ∨ 9223372036854775807 < d
    · rw [binR_no (fun h => ok2.1 h.2.2 h2)]
      simp [t15x2k1, T.den, B.den, A.den, E.den, Cm.den, h1, h2]
    · have o1 : okR 1 a b := ok1.2 h1
      have o2 : okR 1 c d := ok2.2 h2
      have hab := o1.2
      have hcd := o2.2
      rw [binR_ok ⟨by decide, o1, o2⟩]
      have h1' : ((decide (b < a) || decide (a < -9223372036854775808) || decide (9223372036854775807 < b)) = false) := by simpa using h1
      have h2' : ((decide (d < c) || decide (c < -9223372036854775808) || decide (9223372036854775807 < d)) = false) := by simpa using h2
      have e1 : quotS [1, a, b, c, d] = some (quotR 1 a b c d) := if_pos ⟨by decide, ⟨ha, hb, hc, hd⟩, hab, hcd⟩
      have e2 : effS 2 1 a b c d = quotR 1 a b c d := rfl
      rw [e2]
      have e3 : quotR 1 a b c d = [extLo Int.tdiv (DivS a b c d), extHi Int.tdiv (DivS a b c d), if someD b c d then 1 else 0, trapV c d, undV 1 a b c d] := rfl
      rw [e3] at e1 ⊢
      simp only [t15x2k1, T.den, B.den, A.den, E.den, Cm.den, List.map, List.getD_cons_zero, List.getD_cons_succ, List.cons_append, List.nil_append, g67, e1, List.length_cons, List.length_nil, Nat.zero_add, Nat.reduceAdd, if_true, if_false, Bool.false_eq_true, h1', h2', selI, selT, selU]
theorem d15x2k2 {F : Nat → List Int → Option (List Int)} {a b c d : Int} (g60 : F 60 = plusS) (g45 : F 45 = minusS) (g65 : F 65 = timesS) (g73 : F 73 = shiftS) (g67 : F 67 = quotS) (g69 : F 69 = restS) (g71 : F 71 = amountS) (g97 : F 97 = lenS) (hr : in4 a b c d) : t15x2k2.den F 0 [2, 2, a, b, c, d] = some (0, binR 2 2 a b c d) := by
  obtain ⟨ha, hb, hc, hd⟩ := hr
  have ok1 := okR2 (a := a) (b := b)
  have ok2 := okR2 (a := c) (b := d)
  by_cases h1 : (b < a ∨ a < 0) ∨ 255 < b
  · rw [binR_no (fun h => ok1.1 h.2.1 h1)]
    simp [t15x2k2, T.den, B.den, A.den, E.den, Cm.den, h1]
  · by_cases h2 : (d < c ∨ c < 0) ∨ 255 < d
    · rw [binR_no (fun h => ok2.1 h.2.2 h2)]
      simp [t15x2k2, T.den, B.den, A.den, E.den, Cm.den, h1, h2]
    · have o1 : okR 2 a b := ok1.2 h1
      have o2 : okR 2 c d := ok2.2 h2
      have hab := o1.2
      have hcd := o2.2
      rw [binR_ok ⟨by decide, o1, o2⟩]
      have h1' : ((decide (b < a) || decide (a < 0) || decide (255 < b)) = false) := by simpa using h1
      have h2' : ((decide (d < c) || decide (c < 0) || decide (255 < d)) = false) := by simpa using h2
      have e1 : quotS [2, a, b, c, d] = some (quotR 2 a b c d) := if_pos ⟨by decide, ⟨ha, hb, hc, hd⟩, hab, hcd⟩
      have e2 : effS 2 2 a b c d = quotR 2 a b c d := rfl
      rw [e2]
      have e3 : quotR 2 a b c d = [extLo Int.tdiv (DivS a b c d), extHi Int.tdiv (DivS a b c d), if someD b c d then 1 else 0, trapV c d, undV 2 a b c d] := rfl
      rw [e3] at e1 ⊢
      simp only [t15x2k2, T.den, B.den, A.den, E.den, Cm.den, List.map, List.getD_cons_zero, List.getD_cons_succ, List.cons_append, List.nil_append, g67, e1, List.length_cons, List.length_nil, Nat.zero_add, Nat.reduceAdd, if_true, if_false, Bool.false_eq_true, h1', h2', selI, selT, selU]
theorem d15x2k3 {F : Nat → List Int → Option (List Int)} {a b c d : Int} (g60 : F 60 = plusS) (g45 : F 45 = minusS) (g65 : F 65 = timesS) (g73 : F 73 = shiftS) (g67 : F 67 = quotS) (g69 : F 69 = restS) (g71 : F 71 = amountS) (g97 : F 97 = lenS) (hr : in4 a b c d) : t15x2k3.den F 0 [2, 3, a, b, c, d] = some (0, binR 2 3 a b c d) := by
  obtain ⟨ha, hb, hc, hd⟩ := hr
  have ok1 := okR3 (a := a) (b := b)
  have ok2 := okR3 (a := c) (b := d)
  rw [binR_no (by unfold okB fitsB; omega)]
  by_cases h1 : (b < a ∨ a < 0) ∨ 1 < b
  · simp [t15x2k3, T.den, B.den, A.den, E.den, Cm.den, h1]
  · by_cases h2 : (d < c ∨ c < 0) ∨ 1 < d <;> simp [t15x2k3, T.den, B.den, A.den, E.den, Cm.den, h1, h2]
theorem d15x3k1 {F : Nat → List Int → Option (List Int)} {a b c d : Int} (g60 : F 60 = plusS) (g45 : F 45 = minusS) (g65 : F 65 = timesS) (g73 : F 73 = shiftS) (g67 : F 67 = quotS) (g69 : F 69 = restS) (g71 : F 71 = amountS) (g97 : F 97 = lenS) (hr : in4 a b c d) : t15x3k1.den F 0 [3, 1, a, b, c, d] = some (0, binR 3 1 a b c d) := by
  obtain ⟨ha, hb, hc, hd⟩ := hr
  have ok1 := okR1 ha hb
  have ok2 := okR1 hc hd
  by_cases h1 : (b < a ∨ a < -9223372036854775808) ∨ 9223372036854775807 < b
  · rw [binR_no (fun h => ok1.1 h.2.1 h1)]
    simp [t15x3k1, T.den, B.den, A.den, E.den, Cm.den, h1]
  · by_cases h2 : (d < c ∨ c < -9223372036854775808) ∨ 9223372036854775807 < d
    · rw [binR_no (fun h => ok2.1 h.2.2 h2)]
      simp [t15x3k1, T.den, B.den, A.den, E.den, Cm.den, h1, h2]
    · have o1 : okR 1 a b := ok1.2 h1
      have o2 : okR 1 c d := ok2.2 h2
      have hab := o1.2
      have hcd := o2.2
      rw [binR_ok ⟨by decide, o1, o2⟩]
      have h1' : ((decide (b < a) || decide (a < -9223372036854775808) || decide (9223372036854775807 < b)) = false) := by simpa using h1
      have h2' : ((decide (d < c) || decide (c < -9223372036854775808) || decide (9223372036854775807 < d)) = false) := by simpa using h2
      have e1 : quotS [1, a, b, c, d] = some (quotR 1 a b c d) := if_pos ⟨by decide, ⟨ha, hb, hc, hd⟩, hab, hcd⟩
      have e2 : effS 3 1 a b c d = (if someD b c d then [restL a b c d, restH a b c d, 1, trapV c d, undV 1 a b c d] else [0, 0, 0, trapV c d, undV 1 a b c d]) := rfl
      rw [e2]
      by_cases hs : someD b c d
      · have e3 : quotR 1 a b c d = [extLo Int.tdiv (DivS a b c d), extHi Int.tdiv (DivS a b c d), 1, trapV c d, undV 1 a b c d] := by unfold quotR trapV undV; rw [if_pos hs]
        rw [e3] at e1
        have e4 : restS [a, b, c, d] = some [restL a b c d, restH a b c d] := if_pos ⟨⟨ha, hb, hc, hd⟩, hab, hcd, by unfold someD at hs; omega⟩
        simp only [t15x3k1, T.den, B.den, A.den, E.den, Cm.den, List.map, List.getD_cons_zero, List.getD_cons_succ, List.cons_append, List.nil_append, g67, g69, e1, e4, List.length_cons, List.length_nil, Nat.zero_add, Nat.reduceAdd, if_true, if_false, Bool.false_eq_true, h1', h2', sel1, is1, selT, selU, hs]
      · have e3 : quotR 1 a b c d = [0, 0, 0, trapV c d, undV 1 a b c d] := quotR_eq0 ha hab hcd hs
        rw [e3] at e1
        simp only [t15x3k1, T.den, B.den, A.den, E.den, Cm.den, List.map, List.getD_cons_zero, List.getD_cons_succ, List.cons_append, List.nil_append, g67, g69, e1, List.length_cons, List.length_nil, Nat.zero_add, Nat.reduceAdd, if_true, if_false, Bool.false_eq_true, h1', h2', sel0, is0, selT, selU, hs]
theorem d15x3k2 {F : Nat → List Int → Option (List Int)} {a b c d : Int} (g60 : F 60 = plusS) (g45 : F 45 = minusS) (g65 : F 65 = timesS) (g73 : F 73 = shiftS) (g67 : F 67 = quotS) (g69 : F 69 = restS) (g71 : F 71 = amountS) (g97 : F 97 = lenS) (hr : in4 a b c d) : t15x3k2.den F 0 [3, 2, a, b, c, d] = some (0, binR 3 2 a b c d) := by
  obtain ⟨ha, hb, hc, hd⟩ := hr
  have ok1 := okR2 (a := a) (b := b)
  have ok2 := okR2 (a := c) (b := d)
  by_cases h1 : (b < a ∨ a < 0) ∨ 255 < b
  · rw [binR_no (fun h => ok1.1 h.2.1 h1)]
    simp [t15x3k2, T.den, B.den, A.den, E.den, Cm.den, h1]
  · by_cases h2 : (d < c ∨ c < 0) ∨ 255 < d
    · rw [binR_no (fun h => ok2.1 h.2.2 h2)]
      simp [t15x3k2, T.den, B.den, A.den, E.den, Cm.den, h1, h2]
    · have o1 : okR 2 a b := ok1.2 h1
      have o2 : okR 2 c d := ok2.2 h2
      have hab := o1.2
      have hcd := o2.2
      rw [binR_ok ⟨by decide, o1, o2⟩]
      have h1' : ((decide (b < a) || decide (a < 0) || decide (255 < b)) = false) := by simpa using h1
      have h2' : ((decide (d < c) || decide (c < 0) || decide (255 < d)) = false) := by simpa using h2
      have e1 : quotS [2, a, b, c, d] = some (quotR 2 a b c d) := if_pos ⟨by decide, ⟨ha, hb, hc, hd⟩, hab, hcd⟩
      have e2 : effS 3 2 a b c d = (if someD b c d then [restL a b c d, restH a b c d, 1, trapV c d, undV 2 a b c d] else [0, 0, 0, trapV c d, undV 2 a b c d]) := rfl
      rw [e2]
      by_cases hs : someD b c d
      · have e3 : quotR 2 a b c d = [extLo Int.tdiv (DivS a b c d), extHi Int.tdiv (DivS a b c d), 1, trapV c d, undV 2 a b c d] := by unfold quotR trapV undV; rw [if_pos hs]
        rw [e3] at e1
        have e4 : restS [a, b, c, d] = some [restL a b c d, restH a b c d] := if_pos ⟨⟨ha, hb, hc, hd⟩, hab, hcd, by unfold someD at hs; omega⟩
        simp only [t15x3k2, T.den, B.den, A.den, E.den, Cm.den, List.map, List.getD_cons_zero, List.getD_cons_succ, List.cons_append, List.nil_append, g67, g69, e1, e4, List.length_cons, List.length_nil, Nat.zero_add, Nat.reduceAdd, if_true, if_false, Bool.false_eq_true, h1', h2', sel1, is1, selT, selU, hs]
      · have e3 : quotR 2 a b c d = [0, 0, 0, trapV c d, undV 2 a b c d] := quotR_eq0 ha hab hcd hs
        rw [e3] at e1
        simp only [t15x3k2, T.den, B.den, A.den, E.den, Cm.den, List.map, List.getD_cons_zero, List.getD_cons_succ, List.cons_append, List.nil_append, g67, g69, e1, List.length_cons, List.length_nil, Nat.zero_add, Nat.reduceAdd, if_true, if_false, Bool.false_eq_true, h1', h2', sel0, is0, selT, selU, hs]
theorem d15x3k3 {F : Nat → List Int → Option (List Int)} {a b c d : Int} (g60 : F 60 = plusS) (g45 : F 45 = minusS) (g65 : F 65 = timesS) (g73 : F 73 = shiftS) (g67 : F 67 = quotS) (g69 : F 69 = restS) (g71 : F 71 = amountS) (g97 : F 97 = lenS) (hr : in4 a b c d) : t15x3k3.den F 0 [3, 3, a, b, c, d] = some (0, binR 3 3 a b c d) := by
  obtain ⟨ha, hb, hc, hd⟩ := hr
  have ok1 := okR3 (a := a) (b := b)
  have ok2 := okR3 (a := c) (b := d)
  rw [binR_no (by unfold okB fitsB; omega)]
  by_cases h1 : (b < a ∨ a < 0) ∨ 1 < b
  · simp [t15x3k3, T.den, B.den, A.den, E.den, Cm.den, h1]
  · by_cases h2 : (d < c ∨ c < 0) ∨ 1 < d <;> simp [t15x3k3, T.den, B.den, A.den, E.den, Cm.den, h1, h2]
theorem d15x8k1 {F : Nat → List Int → Option (List Int)} {a b c d : Int} (g60 : F 60 = plusS) (g45 : F 45 = minusS) (g65 : F 65 = timesS) (g73 : F 73 = shiftS) (g67 : F 67 = quotS) (g69 : F 69 = restS) (g71 : F 71 = amountS) (g97 : F 97 = lenS) (hr : in4 a b c d) : t15x8k1.den F 0 [8, 1, a, b, c, d] = some (0, binR 8 1 a b c d) := by
  obtain ⟨ha, hb, hc, hd⟩ := hr
  have ok1 := okR1 ha hb
  have ok2 := okR1 hc hd
  by_cases h1 : (b < a ∨ a < -9223372036854775808) ∨ 9223372036854775807 < b
  · rw [binR_no (fun h => ok1.1 h.2.1 h1)]
    simp [t15x8k1, T.den, B.den, A.den, E.den, Cm.den, h1]
  · by_cases h2 : (d < c ∨ c < -9223372036854775808) ∨ 9223372036854775807 < d
    · rw [binR_no (fun h => ok2.1 h.2.2 h2)]
      simp [t15x8k1, T.den, B.den, A.den, E.den, Cm.den, h1, h2]
    · have o1 : okR 1 a b := ok1.2 h1
      have o2 : okR 1 c d := ok2.2 h2
      have hab := o1.2
      have hcd := o2.2
      rw [binR_ok ⟨by decide, o1, o2⟩]
      have h1' : ((decide (b < a) || decide (a < -9223372036854775808) || decide (9223372036854775807 < b)) = false) := by simpa using h1
      have h2' : ((decide (d < c) || decide (c < -9223372036854775808) || decide (9223372036854775807 < d)) = false) := by simpa using h2
      have e2 : effS 8 1 a b c d = andR 1 a b c d ++ [1, 0, 0] := rfl
      rw [e2]
      unfold andR
      have b0 : ∀ x y, bitsOf .i64 (fun a b => a &&& b) x y = andB x y := fun _ _ => rfl
      by_cases hs : a = b ∧ c = d
      · obtain ⟨z1, z2⟩ := hs
        subst z1; subst z2
        have r1 : ¬ a < -9223372036854775808 := by omega
        have r2 : ¬ 9223372036854775807 < a := by omega
        have r3 : ¬ c < -9223372036854775808 := by omega
        have r4 : ¬ 9223372036854775807 < c := by omega
        simp [t15x8k1, T.den, B.den, A.den, E.den, Cm.den, b0, r1, r2, r3, r4]
      · by_cases p : 0 ≤ a <;> by_cases q : 0 ≤ c <;> simp [t15x8k1, T.den, B.den, A.den, E.den, Cm.den, h1, h2, hs, p, q, mn_eq, fullL, fullH]
theorem d15x8k2 {F : Nat → List Int → Option (List Int)} {a b c d : Int} (g60 : F 60 = plusS) (g45 : F 45 = minusS) (g65 : F 65 = timesS) (g73 : F 73 = shiftS) (g67 : F 67 = quotS) (g69 : F 69 = restS) (g71 : F 71 = amountS) (g97 : F 97 = lenS) (hr : in4 a b c d) : t15x8k2.den F 0 [8, 2, a, b, c, d] = some (0, binR 8 2 a b c d) := by
  obtain ⟨ha, hb, hc, hd⟩ := hr
  have ok1 := okR2 (a := a) (b := b)
  have ok2 := okR2 (a := c) (b := d)
  by_cases h1 : (b < a ∨ a < 0) ∨ 255 < b
  · rw [binR_no (fun h => ok1.1 h.2.1 h1)]
    simp [t15x8k2, T.den, B.den, A.den, E.den, Cm.den, h1]
  · by_cases h2 : (d < c ∨ c < 0) ∨ 255 < d
    · rw [binR_no (fun h => ok2.1 h.2.2 h2)]
      simp [t15x8k2, T.den, B.den, A.den, E.den, Cm.den, h1, h2]
    · have o1 : okR 2 a b := ok1.2 h1
      have o2 : okR 2 c d := ok2.2 h2
      have hab := o1.2
      have hcd := o2.2
      rw [binR_ok ⟨by decide, o1, o2⟩]
      have h1' : ((decide (b < a) || decide (a < 0) || decide (255 < b)) = false) := by simpa using h1
      have h2' : ((decide (d < c) || decide (c < 0) || decide (255 < d)) = false) := by simpa using h2
      have e2 : effS 8 2 a b c d = andR 2 a b c d ++ [1, 0, 0] := rfl
      rw [e2]
      unfold andR
      have b0 : ∀ x y, bitsOf .i64 (fun a b => a &&& b) x y = andB x y := fun _ _ => rfl
      by_cases hs : a = b ∧ c = d
      · obtain ⟨z1, z2⟩ := hs
        subst z1; subst z2
        have r1 : ¬ a < 0 := by omega
        have r2 : ¬ 255 < a := by omega
        have r3 : ¬ c < 0 := by omega
        have r4 : ¬ 255 < c := by omega
        simp [t15x8k2, T.den, B.den, A.den, E.den, Cm.den, b0, r1, r2, r3, r4]
      · simp [t15x8k2, T.den, B.den, A.den, E.den, Cm.den, h1, h2, hs, mn_eq, show 0 ≤ a by omega, show 0 ≤ c by omega]
theorem d15x8k3 {F : Nat → List Int → Option (List Int)} {a b c d : Int} (g60 : F 60 = plusS) (g45 : F 45 = minusS) (g65 : F 65 = timesS) (g73 : F 73 = shiftS) (g67 : F 67 = quotS) (g69 : F 69 = restS) (g71 : F 71 = amountS) (g97 : F 97 = lenS) (hr : in4 a b c d) : t15x8k3.den F 0 [8, 3, a, b, c, d] = some (0, binR 8 3 a b c d) := by
  obtain ⟨ha, hb, hc, hd⟩ := hr
  have ok1 := okR3 (a := a) (b := b)
  have ok2 := okR3 (a := c) (b := d)
  rw [binR_no (by unfold okB fitsB; omega)]
  by_cases h1 : (b < a ∨ a < 0) ∨ 1 < b
  · simp [t15x8k3, T.den, B.den, A.den, E.den, Cm.den, h1]
  · by_cases h2 : (d < c ∨ c < 0) ∨ 1 < d <;> simp [t15x8k3, T.den, B.den, A.den, E.den, Cm.den, h1, h2]
theorem d15x9k1 {F : Nat → List Int → Option (List Int)} {a b c d : Int} (g60 : F 60 = plusS) (g45 : F 45 = minusS) (g65 : F 65 = timesS) (g73 : F 73 = shiftS) (g67 : F 67 = quotS) (g69 : F 69 = restS) (g71 : F 71 = amountS) (g97 : F 97 = lenS) (hr : in4 a b c d) : t15x9k1.den F 0 [9, 1, a, b, c, d] = some (0, binR 9 1 a b c d) := by
  obtain ⟨ha, hb, hc, hd⟩ := hr
  have ok1 := okR1 ha hb
  have ok2 := okR1 hc hd
  by_cases h1 : (b < a ∨ a < -9223372036854775808) ∨ 9223372036854775807 < b
  · rw [binR_no (fun h => ok1.1 h.2.1 h1)]
    simp [t15x9k1, T.den, B.den, A.den, E.den, Cm.den, h1]
  · by_cases h2 : (d < c ∨ c < -9223372036854775808) ∨ 9223372036854775807 < d
    · rw [binR_no (fun h => ok2.1 h.2.2 h2)]
      simp [t15x9k1, T.den, B.den, A.den, E.den, Cm.den, h1, h2]
    · have o1 : okR 1 a b := ok1.2 h1
      have o2 : okR 1 c d := ok2.2 h2
      have hab := o1.2
      have hcd := o2.2
      rw [binR_ok ⟨by decide, o1, o2⟩]
      have h1' : ((decide (b < a) || decide (a < -9223372036854775808) || decide (9223372036854775807 < b)) = false) := by simpa using h1
      have h2' : ((decide (d < c) || decide (c < -9223372036854775808) || decide (9223372036854775807 < d)) = false) := by simpa using h2
      have e2 : effS 9 1 a b c d = xorR 1 a b c d ++ [1, 0, 0] := rfl
      rw [e2]
      unfold xorR
      have b0 : ∀ x y, bitsOf .i64 (fun a b => a ^^^ b) x y = xorB x y := fun _ _ => rfl
      by_cases hs : a = b ∧ c = d
      · obtain ⟨z1, z2⟩ := hs
        subst z1; subst z2
        have r1 : ¬ a < -9223372036854775808 := by omega
        have r2 : ¬ 9223372036854775807 < a := by omega
        have r3 : ¬ c < -9223372036854775808 := by omega
        have r4 : ¬ 9223372036854775807 < c := by omega
        simp [t15x9k1, T.den, B.den, A.den, E.den, Cm.den, b0, r1, r2, r3, r4]
      · by_cases p : 0 ≤ a ∧ 0 ≤ c
        · have p1 := p.1
          have p2 := p.2
          obtain ⟨t1, t2, t3⟩ := top_eq (m := max b d) (by omega) (by unfold inI at *; omega)
          have t0 : max b d % 18446744073709551616 = max b d := by unfold inI at *; omega
          have t4 : ¬ lenV (max b d) < 0 := by omega
          simp [t15x9k1, T.den, B.den, A.den, E.den, Cm.den, h1, h2, hs, p1, p2, show ¬ (a < 0 ∨ c < 0) by omega, mn_eq, mx_eq, wrap64, wrapU, g97, t0, t1, t2, t4]
        · by_cases p1 : 0 ≤ a
          · have p2 : ¬ 0 ≤ c := fun h => p ⟨p1, h⟩
            simp [t15x9k1, T.den, B.den, A.den, E.den, Cm.den, h1, h2, hs, p1, p2, fullL, fullH]
          · simp [t15x9k1, T.den, B.den, A.den, E.den, Cm.den, h1, h2, hs, p1, fullL, fullH]
theorem d15x9k2 {F : Nat → List Int → Option (List Int)} {a b c d : Int} (g60 : F 60 = plusS) (g45 : F 45 = minusS) (g65 : F 65 = timesS) (g73 : F 73 = shiftS) (g67 : F 67 = quotS) (g69 : F 69 = restS) (g71 : F 71 = amountS) (g97 : F 97 = lenS) (hr : in4 a b c d) : t15x9k2.den F 0 [9, 2, a, b, c, d] = some (0, binR 9 2 a b c d) := by
  obtain ⟨ha, hb, hc, hd⟩ := hr
  have ok1 := okR2 (a := a) (b := b)
  have ok2 := okR2 (a := c) (b := d)
  by_cases h1 : (b < a ∨ a < 0) ∨ 255 < b
  · rw [binR_no (fun h => ok1.1 h.2.1 h1)]
    simp [t15x9k2, T.den, B.den, A.den, E.den, Cm.den, h1]
  · by_cases h2 : (d < c ∨ c < 0) ∨ 255 < d
    · rw [binR_no (fun h => ok2.1 h.2.2 h2)]
      simp [t15x9k2, T.den, B.den, A.den, E.den, Cm.den, h1, h2]
    · have o1 : okR 2 a b := ok1.2 h1
      have o2 : okR 2 c d := ok2.2 h2
      have hab := o1.2
      have hcd := o2.2
      rw [binR_ok ⟨by decide, o1, o2⟩]
      have h1' : ((decide (b < a) || decide (a < 0) || decide (255 < b)) = false) := by simpa using h1
      have h2' : ((decide (d < c) || decide (c < 0) || decide (255 < d)) = false) := by simpa using h2
      have e2 : effS 9 2 a b c d = xorR 2 a b c d ++ [1, 0, 0] := rfl
      rw [e2]
      unfold xorR
      have b0 : ∀ x y, bitsOf .i64 (fun a b => a ^^^ b) x y = xorB x y := fun _ _ => rfl
      by_cases hs : a = b ∧ c = d
      · obtain ⟨z1, z2⟩ := hs
        subst z1; subst z2
        have r1 : ¬ a < 0 := by omega
        have r2 : ¬ 255 < a := by omega
        have r3 : ¬ c < 0 := by omega
        have r4 : ¬ 255 < c := by omega
        simp [t15x9k2, T.den, B.den, A.den, E.den, Cm.den, b0, r1, r2, r3, r4]
      · have p1 : 0 ≤ a := by omega
        have p2 : 0 ≤ c := by omega
        obtain ⟨t1, t2, t3⟩ := top_eq (m := max b d) (by omega) (by unfold inI at *; omega)
        have t0 : max b d % 18446744073709551616 = max b d := by unfold inI at *; omega
        have t4 : ¬ lenV (max b d) < 0 := by omega
        simp [t15x9k2, T.den, B.den, A.den, E.den, Cm.den, h1, h2, hs, p1, p2, show ¬ (a < 0 ∨ c < 0) by omega, mn_eq, mx_eq, wrap64, wrapU, g97, t0, t1, t2, t4]
theorem d15x9k3 {F : Nat → List Int → Option (List Int)} {a b c d : Int} (g60 : F 60 = plusS) (g45 : F 45 = minusS) (g65 : F 65 = timesS) (g73 : F 73 = shiftS) (g67 : F 67 = quotS) (g69 : F 69 = restS) (g71 : F 71 = amountS) (g97 : F 97 = lenS) (hr : in4 a b c d) : t15x9k3.den F 0 [9, 3, a, b, c, d] = some (0, binR 9 3 a b c d) := by
  obtain ⟨ha, hb, hc, hd⟩ := hr
  have ok1 := okR3 (a := a) (b := b)
  have ok2 := okR3 (a := c) (b := d)
  rw [binR_no (by unfold okB fitsB; omega)]
  by_cases h1 : (b < a ∨ a < 0) ∨ 1 < b
  · simp [t15x9k3, T.den, B.den, A.den, E.den, Cm.den, h1]
  · by_cases h2 : (d < c ∨ c < 0) ∨ 1 < d <;> simp [t15x9k3, T.den, B.den, A.den, E.den, Cm.den, h1, h2]
theorem d15x10k1 {F : Nat → List Int → Option (List Int)} {a b c d : Int} (g60 : F 60 = plusS) (g45 : F 45 = minusS) (g65 : F 65 = timesS) (g73 : F 73 = shiftS) (g67 : F 67 = quotS) (g69 : F 69 = restS) (g71 : F 71 = amountS) (g97 : F 97 = lenS) (hr : in4 a b c d) : t15x10k1.den F 0 [10, 1, a, b, c, d] = some (0, binR 10 1 a b c d) := by
  obtain ⟨ha, hb, hc, hd⟩ := hr
  have ok1 := okR1 ha hb
  have ok2 := okR1 hc hd
  by_cases h1 : (b < a ∨ a < -9223372036854775808) ∨ 9223372036854775807 < b
  · rw [binR_no (fun h => ok1.1 h.2.1 h1)]
    simp [t15x10k1, T.den, B.den, A.den, E.den, Cm.den, h1]
  · by_cases h2 : (d < c ∨ c < -9223372036854775808) ∨ 9223372036854775807 < d
    · rw [binR_no (fun h => ok2.1 h.2.2 h2)]
      simp [t15x10k1, T.den, B.den, A.den, E.den, Cm.den, h1, h2]
    · have o1 : okR 1 a b := ok1.2 h1
      have o2 : okR 1 c d := ok2.2 h2
      have hab := o1.2
      have hcd := o2.2
      rw [binR_ok ⟨by decide, o1, o2⟩]
      have h1' : ((decide (b < a) || decide (a < -9223372036854775808) || decide (9223372036854775807 < b)) = false) := by simpa using h1
      have h2' : ((decide (d < c) || decide (c < -9223372036854775808) || decide (9223372036854775807 < d)) = false) := by simpa using h2
      have e2 : effS 10 1 a b c d = orR 1 a b c d ++ [1, 0, 0] := rfl
      rw [e2]
      unfold orR
      have b0 : ∀ x y, bitsOf .i64 (fun a b => a ||| b) x y = orB x y := fun _ _ => rfl
      by_cases hs : a = b ∧ c = d
      · obtain ⟨z1, z2⟩ := hs
        subst z1; subst z2
        have r1 : ¬ a < -9223372036854775808 := by omega
        have r2 : ¬ 9223372036854775807 < a := by omega
        have r3 : ¬ c < -9223372036854775808 := by omega
        have r4 : ¬ 9223372036854775807 < c := by omega
        simp [t15x10k1, T.den, B.den, A.den, E.den, Cm.den, b0, r1, r2, r3, r4]
      · by_cases p : 0 ≤ a ∧ 0 ≤ c
        · have p1 := p.1
          have p2 := p.2
          obtain ⟨t1, t2, t3⟩ := top_eq (m := max b d) (by omega) (by unfold inI at *; omega)
          have t0 : max b d % 18446744073709551616 = max b d := by unfold inI at *; omega
          have t4 : ¬ lenV (max b d) < 0 := by omega
          simp [t15x10k1, T.den, B.den, A.den, E.den, Cm.den, h1, h2, hs, p1, p2, show ¬ (a < 0 ∨ c < 0) by omega, mn_eq, mx_eq, wrap64, wrapU, g97, t0, t1, t2, t4]
        · by_cases p1 : 0 ≤ a
          · have p2 : ¬ 0 ≤ c := fun h => p ⟨p1, h⟩
            simp [t15x10k1, T.den, B.den, A.den, E.den, Cm.den, h1, h2, hs, p1, p2, fullL, fullH]
          · simp [t15x10k1, T.den, B.den, A.den, E.den, Cm.den, h1, h2, hs, p1, fullL, fullH]
theorem d15x10k2 {F : Nat → List Int → Option (List Int)} {a b c d : Int} (g60 : F 60 = plusS) (g45 : F 45 = minusS) (g65 : F 65 = timesS) (g73 : F 73 = shiftS) (g67 : F 67 = quotS) (g69 : F 69 = restS) (g71 : F 71 = amountS) (g97 : F 97 = lenS) (hr : in4 a b c d) : t15x10k2.den F 0 [10, 2, a, b, c, d] = some (0, binR 10 2 a b c d) := by
  obtain ⟨ha, hb, hc, hd⟩ := hr
  have ok1 := okR2 (a := a) (b := b)
  have ok2 := okR2 (a := c) (b := d)
  by_cases h1 : (b < a ∨ a < 0) ∨ 255 < b
  · rw [binR_no (fun h => ok1.1 h.2.1 h1)]
    simp [t15x10k2, T.den, B.den, A.den, E.den, Cm.den, h1]
  · by_cases h2 : (d < c ∨ c < 0) ∨ 255 < d
    · rw [binR_no (fun h => ok2.1 h.2.2 h2)]
      simp [t15x10k2, T.den, B.den, A.den, E.den, Cm.den, h1, h2]
    · have o1 : okR 2 a b := ok1.2 h1
      have o2 : okR 2 c d := ok2.2 h2
      have hab := o1.2
      have hcd := o2.2
      rw [binR_ok ⟨by decide, o1, o2⟩]
      have h1' : ((decide (b < a) || decide (a < 0) || decide (255 < b)) = false) := by simpa using h1
      have h2' : ((decide (d < c) || decide (c < 0) || decide (255 < d)) = false) := by simpa using h2
      have e2 : effS 10 2 a b c d = orR 2 a b c d ++ [1, 0, 0] := rfl
      rw [e2]
      unfold orR
      have b0 : ∀ x y, bitsOf .i64 (fun a b => a ||| b) x y = orB x y := fun _ _ => rfl
      by_cases hs : a = b ∧ c = d
      · obtain ⟨z1, z2⟩ := hs
        subst z1; subst z2
        have r1 : ¬ a < 0 := by omega
        have r2 : ¬ 255 < a := by omega
        have r3 : ¬ c < 0 := by omega
        have r4 : ¬ 255 < c := by omega
        simp [t15x10k2, T.den, B.den, A.den, E.den, Cm.den, b0, r1, r2, r3, r4]
      · have p1 : 0 ≤ a := by omega
        have p2 : 0 ≤ c := by omega
        obtain ⟨t1, t2, t3⟩ := top_eq (m := max b d) (by omega) (by unfold inI at *; omega)
        have t0 : max b d % 18446744073709551616 = max b d := by unfold inI at *; omega
        have t4 : ¬ lenV (max b d) < 0 := by omega
        simp [t15x10k2, T.den, B.den, A.den, E.den, Cm.den, h1, h2, hs, p1, p2, show ¬ (a < 0 ∨ c < 0) by omega, mn_eq, mx_eq, wrap64, wrapU, g97, t0, t1, t2, t4]
theorem d15x10k3 {F : Nat → List Int → Option (List Int)} {a b c d : Int} (g60 : F 60 = plusS) (g45 : F 45 = minusS) (g65 : F 65 = timesS) (g73 : F 73 = shiftS) (g67 : F 67 = quotS) (g69 : F 69 = restS) (g71 : F 71 = amountS) (g97 : F 97 = lenS) (hr : in4 a b c d) : t15x10k3.den F 0 [10, 3, a, b, c, d] = some (0, binR 10 3 a b c d) := by
  obtain ⟨ha, hb, hc, hd⟩ := hr
  have ok1 := okR3 (a := a) (b := b)
  have ok2 := okR3 (a := c) (b := d)
  rw [binR_no (by unfold okB fitsB; omega)]
  by_cases h1 : (b < a ∨ a < 0) ∨ 1 < b
  · simp [t15x10k3, T.den, B.den, A.den, E.den, Cm.den, h1]
  · by_cases h2 : (d < c ∨ c < 0) ∨ 1 < d <;> simp [t15x10k3, T.den, B.den, A.den, E.den, Cm.den, h1, h2]
end Go.SXR

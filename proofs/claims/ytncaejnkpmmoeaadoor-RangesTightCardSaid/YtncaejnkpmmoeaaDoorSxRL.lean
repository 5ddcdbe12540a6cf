/- RANGES: values that are picked, comparisons; what Assume leaves. -/
import Derived.Test.YtncaejnkpmmoeaaDoorSxRC
set_option linter.unusedVariables false
set_option linter.unusedSimpArgs false
namespace Go.SXR
open Go Go.SX Go.Proofs Go.RowKit

theorem wrapU (n : Int) : IntKind.wrap .u64 n = n % 18446744073709551616 := by
  unfold IntKind.wrap
  simp only [IntKind.bits, IntKind.signed]
  have e1 : (2 : Int) ^ 64 = 18446744073709551616 := by decide
  simp [e1]
def pickV (a b n : Int) : Int :=
  if (b - a + 1) % 18446744073709551616 = 0 then w64 n else w64 ((a % 18446744073709551616 + n % ((b - a + 1) % 18446744073709551616)) % 18446744073709551616)
def pickS : List Int → Option (List Int)
  | [a, b, n] => if 0 ≤ n then some [pickV a b n] else none
  | _ => none
def sg13 : Sig := ⟨[(.agg [.int .i64, .int .i64]), U], [I]⟩
def t13 : T := (.lt (.wrap .u64 (.v 1)) (.lt (.wrap .u64 (.v 0)) (.lt (.sub .u64 (.v 3) (.v 4)) (.lt (.add .u64 (.v 5) (.n 1)) (.br (.cmp .eq (.v 6) (.n 0)) (.lt (.wrap .i64 (.v 2)) (.ret [(.v 7)])) (.lt (.wrap .u64 (.v 0)) (.lt (.rem (.v 2) (.v 6)) (.lt (.add .u64 (.v 7) (.v 8)) (.lt (.wrap .i64 (.v 9)) (.ret [(.v 10)]))))))))))
theorem q13 : sxFunc (Cf [] unAll) 200 13 sg13 = t13 := by kernel_rfl
def p13 : Sp := (13, sg13, pickS)
theorem e13 : Ent p13 := ent_of unAll (l := []) ents_nil q13 fun args rs h hl => by
  match args, hl with
  | [a, b, n], _ =>
    simp only [pickS] at h
    split at h
    · rename_i hn
      cases h
      refine ⟨0, ?_⟩
      have e : ((b % 18446744073709551616 - a % 18446744073709551616) % 18446744073709551616 + 1) % 18446744073709551616 = (b - a + 1) % 18446744073709551616 := by omega
      simp only [t13, T.den, B.den, A.den, E.den, Cm.den, List.map, List.getD_cons_zero, List.getD_cons_succ, List.cons_append, List.nil_append, Bool.or_eq_true, Bool.and_eq_true, Bool.not_eq_true', decide_eq_true_eq, decide_eq_false_iff_not, beq_iff_eq, beq_eq_false_iff_ne, ne_eq, wrap64, wrapU, e]
      unfold pickV
      rw [Int.tmod_eq_emod_of_nonneg hn]
      split <;> rfl
    · cases h
theorem pick_in {a b n : Int} (ha : inI a) (hb : inI b) (h : a ≤ b) (h0 : 0 ≤ n) (hn : n < 18446744073709551616) : a ≤ pickV a b n ∧ pickV a b n ≤ b := by
  unfold inI at ha hb
  unfold pickV
  split
  · unfold w64; omega
  · rename_i hs
    have e : (b - a + 1) % 18446744073709551616 = b - a + 1 := by omega
    rw [e]
    have h1 := Int.emod_nonneg n (show b - a + 1 ≠ 0 by omega)
    have h2 := Int.emod_lt_of_pos n (show 0 < b - a + 1 by omega)
    generalize n % (b - a + 1) = m at h1 h2
    unfold w64
    omega
def holdsP (op a b : Int) : Prop := if op = 11 then a = b else if op = 12 then a ≠ b else if op = 13 then a < b else if op = 14 then a ≤ b else if op = 15 then b < a else b ≤ a
instance (op a b : Int) : Decidable (holdsP op a b) := by unfold holdsP; infer_instance
def holdsS : List Int → Option (List Int)
  | [op, a, b] => some [if holdsP op a b then 1 else 0]
  | _ => none
def sg14 : Sig := ⟨[I, I, I], [L]⟩
def t14 : T := (.br (.cmp .eq (.v 0) (.n 11)) (.lt (.sel (.cmp .eq (.v 1) (.v 2)) (.n 1) (.n 0)) (.ret [(.v 3)])) (.br (.cmp .eq (.v 0) (.n 12)) (.lt (.sel (.not (.cmp .eq (.v 1) (.v 2))) (.n 1) (.n 0)) (.ret [(.v 3)])) (.br (.cmp .eq (.v 0) (.n 13)) (.lt (.sel (.cmp .lt (.v 1) (.v 2)) (.n 1) (.n 0)) (.ret [(.v 3)])) (.br (.cmp .eq (.v 0) (.n 14)) (.lt (.sel (.not (.cmp .lt (.v 2) (.v 1))) (.n 1) (.n 0)) (.ret [(.v 3)])) (.br (.cmp .eq (.v 0) (.n 15)) (.lt (.sel (.cmp .lt (.v 2) (.v 1)) (.n 1) (.n 0)) (.ret [(.v 3)])) (.lt (.sel (.not (.cmp .lt (.v 1) (.v 2))) (.n 1) (.n 0)) (.ret [(.v 3)])))))))
theorem q14 : sxFunc (Cf [] unAll) 200 14 sg14 = t14 := by kernel_rfl
def p14 : Sp := (14, sg14, holdsS)
theorem e14 : Ent p14 := ent_of unAll (l := []) ents_nil q14 fun args rs h hl => by
  match args, hl with
  | [op, a, b], _ =>
    simp only [holdsS] at h
    cases h
    refine ⟨0, ?_⟩
    simp only [t14, T.den, B.den, A.den, E.den, Cm.den, List.map, List.getD_cons_zero, List.getD_cons_succ, List.cons_append, List.nil_append, Bool.or_eq_true, Bool.and_eq_true, Bool.not_eq_true', decide_eq_true_eq, decide_eq_false_iff_not, beq_iff_eq, beq_eq_false_iff_ne, ne_eq]
    unfold holdsP
    repeat' split
    all_goals first | rfl | (exfalso; omega) | (simp only [Option.some.injEq, Prod.mk.injEq, List.cons.injEq, and_true, true_and]; omega)
theorem holds_opp {op a b : Int} (h : 11 ≤ op ∧ op ≤ 16) : holdsP (opp op) a b ↔ ¬ holdsP op a b := by
  have hcase : op = 11 ∨ op = 12 ∨ op = 13 ∨ op = 14 ∨ op = 15 ∨ op = 16 := by omega
  rcases hcase with rfl | rfl | rfl | rfl | rfl | rfl <;> simp [opp, holdsP] <;> omega
/-- What is left: what the values need; and no more than there was. -/
def Leaves (op a b c d : Int) (l : List Int) : Prop := ∃ p q r s t, l = [p, q, r, s, t] ∧ (t = 0 ∨ t = 1) ∧ (∀ m n, a ≤ m → m ≤ b → c ≤ n → n ≤ d → holdsP op m n → t = 1 ∧ p ≤ m ∧ m ≤ q ∧ r ≤ n ∧ n ≤ s) ∧ (t = 1 → a ≤ p ∧ q ≤ b ∧ p ≤ q ∧ c ≤ r ∧ s ≤ d ∧ r ≤ s)
theorem leaves1 {op a b c d : Int} (hop : op = 11 ∨ op = 12 ∨ op = 13 ∨ op = 14) (hr : in4 a b c d) (h1 : a ≤ b) (h2 : c ≤ d) : Leaves op a b c d (lf1 op a b c d) := by
  unfold in4 inI at hr
  rcases hop with rfl | rfl | rfl | rfl
  · refine ⟨_, _, _, _, _, if_pos rfl, ?_, fun m n g1 g2 g3 g4 hh => ?_, fun ht => ?_⟩
    · unfold meetB; split <;> omega
    · simp [holdsP] at hh
      unfold meetB meetL meetH
      rw [if_neg (by omega), if_neg (by omega), if_neg (by omega)]
      omega
    · unfold meetB at ht
      unfold meetL meetH
      split at ht
      · cases ht
      · rename_i hc
        rw [if_neg hc, if_neg hc]
        omega
  · have e : lf1 12 a b c d = done5 (wl a b c d) (wh a b c d) (wl c d a b) (wh c d a b) := by
      simp only [lf1, show ¬ (12 : Int) = 11 from by decide, if_false, if_true, wl_eq, wh_eq]
    rw [e]
    refine ⟨_, _, _, _, _, rfl, by split <;> omega, fun m n g1 g2 g3 g4 hh => ?_, fun ht => ?_⟩
    · simp [holdsP] at hh
      have hw : wl a b c d ≤ m ∧ m ≤ wh a b c d ∧ wl c d a b ≤ n ∧ n ≤ wh c d a b := by
        unfold wl wh w64
        refine ⟨?_, ?_, ?_, ?_⟩ <;> (repeat' split) <;> omega
      rw [if_pos (by omega)]
      exact ⟨rfl, hw⟩
    · split at ht
      · rename_i hc
        have hw : a ≤ wl a b c d ∧ wh a b c d ≤ b ∧ c ≤ wl c d a b ∧ wh c d a b ≤ d ∨ ¬ (wl a b c d ≤ wh a b c d ∧ wl c d a b ≤ wh c d a b) := by
          unfold wl wh w64
          (repeat' split) <;> omega
        omega
      · cases ht
  · have e : lf1 13 a b c d = if no a d then [a, b, c, d, 0] else done5 a (min b (w64 (d - 1))) (max c (w64 (a + 1))) d := by
      simp only [lf1, show ¬ (13 : Int) = 11 from by decide, show ¬ (13 : Int) = 12 from by decide, show ¬ (13 : Int) = 14 from by decide, if_false]
    rw [e]
    by_cases hn : no a d
    · rw [if_pos hn]
      refine ⟨_, _, _, _, _, rfl, .inl rfl, fun m n g1 g2 g3 g4 hh => ?_, fun ht => by cases ht⟩
      simp [holdsP] at hh
      unfold no at hn
      omega
    · rw [if_neg hn]
      unfold no at hn
      have w1 : w64 (d - 1) = d - 1 := w64_id (by unfold inI; omega)
      have w2 : w64 (a + 1) = a + 1 := w64_id (by unfold inI; omega)
      rw [w1, w2]
      refine ⟨_, _, _, _, _, rfl, by split <;> omega, fun m n g1 g2 g3 g4 hh => ?_, fun ht => ?_⟩
      · simp [holdsP] at hh
        rw [if_pos (by omega)]
        omega
      · split at ht
        · omega
        · cases ht
  · have e : lf1 14 a b c d = done5 a (min b d) (max c a) d := by
      simp only [lf1, show ¬ (14 : Int) = 11 from by decide, show ¬ (14 : Int) = 12 from by decide, if_false, if_true]
    rw [e]
    refine ⟨_, _, _, _, _, rfl, by split <;> omega, fun m n g1 g2 g3 g4 hh => ?_, fun ht => ?_⟩
    · simp [holdsP] at hh
      rw [if_pos (by omega)]
      omega
    · split at ht
      · omega
      · cases ht
theorem leaves2 {op a b c d : Int} (hop : 11 ≤ op ∧ op ≤ 16) (hr : in4 a b c d) (h1 : a ≤ b) (h2 : c ≤ d) : Leaves op a b c d (lf2 op a b c d) := by
  unfold lf2
  by_cases h : op ≤ 14
  · rw [if_pos h]
    exact leaves1 (by omega) hr h1 h2
  · rw [if_neg h]
    have hs : op = 15 ∨ op = 16 := by omega
    rcases hs with rfl | rfl
    · obtain ⟨p, q, r, s, t, e, ht, hh, hi⟩ := leaves1 (op := 13) (a := c) (b := d) (c := a) (d := b) (by omega) (in4_swap hr) h2 h1
      refine ⟨r, s, p, q, t, by rw [if_pos rfl, e]; rfl, ht, fun m n g1 g2 g3 g4 g5 => ?_, fun h => ?_⟩
      · have := hh n m g3 g4 g1 g2 (by simpa [holdsP] using g5)
        omega
      · have := hi h
        omega
    · obtain ⟨p, q, r, s, t, e, ht, hh, hi⟩ := leaves1 (op := 14) (a := c) (b := d) (c := a) (d := b) (by omega) (in4_swap hr) h2 h1
      refine ⟨r, s, p, q, t, by rw [if_neg (by decide), e]; rfl, ht, fun m n g1 g2 g3 g4 g5 => ?_, fun h => ?_⟩
      · have := hh n m g3 g4 g1 g2 (by simpa [holdsP] using g5)
        omega
      · have := hi h
        omega
end Go.SXR

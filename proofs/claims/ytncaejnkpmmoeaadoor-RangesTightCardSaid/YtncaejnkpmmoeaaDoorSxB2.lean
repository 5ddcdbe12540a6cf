/- RANGES: quotients, remainders and amounts of shifts, of the program. -/
import Derived.Test.YtncaejnkpmmoeaaDoorSxM2
import Derived.Test.YtncaejnkpmmoeaaDoorSxB1
set_option linter.unusedVariables false
set_option linter.unusedSimpArgs false
namespace Go.SXR
open Go Go.SX Go.Proofs Go.RowKit

def containsS : List Int → Option (List Int)
  | [a, b, n] => some [if a ≤ n ∧ n ≤ b then 1 else 0]
  | _ => none
def sg91 : Sig := ⟨[(.agg [.int .i64, .int .i64]), I], [L]⟩
def t91 : T := (.lt (.sel (.and (.not (.cmp .lt (.v 2) (.v 0))) (.not (.cmp .lt (.v 1) (.v 2)))) (.n 1) (.n 0)) (.ret [(.v 3)]))
theorem q91 : sxFunc (Cf [] unAll) 200 91 sg91 = t91 := by kernel_rfl
def p91 : Sp := (91, sg91, containsS)
theorem e91 : Ent p91 := ent_of unAll (l := []) ents_nil q91 fun args rs h hl => by
  match args, hl with
  | [a, b, n], _ =>
    simp only [containsS] at h
    cases h
    refine ⟨0, ?_⟩
    simp only [t91, T.den, B.den, A.den, E.den, Cm.den, List.map, List.getD_cons_zero, List.getD_cons_succ, List.cons_append, List.nil_append, Bool.or_eq_true, Bool.and_eq_true, Bool.not_eq_true', decide_eq_true_eq, decide_eq_false_iff_not, beq_iff_eq, beq_eq_false_iff_ne, ne_eq]
    repeat' split
    all_goals first | rfl | (exfalso; omega) | (simp only [Option.some.injEq, Prod.mk.injEq, List.cons.injEq, and_true, true_and]; omega)
theorem meetP {c d : Int} (hd : inI d) (hcd : c ≤ d) (h : 1 ≤ d) : meet3S [c, d, 1, 9223372036854775807] = some [max c 1, d, 1] := by
  unfold inI at hd
  simp only [meet3S]
  rw [if_neg (by omega), if_neg (by omega), if_neg (by omega), show min d 9223372036854775807 = d by omega]
theorem meetP0 {c d : Int} (h : ¬ 1 ≤ d) : meet3S [c, d, 1, 9223372036854775807] = some [0, 0, 0] := by
  simp only [meet3S]
  rw [if_pos (by omega), if_pos (by omega), if_pos (by omega)]
theorem meetN {c d : Int} (hc : inI c) (hcd : c ≤ d) (h : c ≤ -2) : meet3S [c, d, -9223372036854775808, -2] = some [c, min d (-2), 1] := by
  unfold inI at hc
  simp only [meet3S]
  rw [if_neg (by omega), if_neg (by omega), if_neg (by omega), show max c (-9223372036854775808) = c by omega]
theorem meetN0 {c d : Int} (h : ¬ c ≤ -2) : meet3S [c, d, -9223372036854775808, -2] = some [0, 0, 0] := by
  simp only [meet3S]
  rw [if_pos (by omega), if_pos (by omega), if_pos (by omega)]
theorem meetM {a b : Int} (hb : inI b) (hab : a ≤ b) (h : -9223372036854775808 < b) : meet3S [a, b, -9223372036854775807, 9223372036854775807] = some [max a (-9223372036854775807), b, 1] := by
  unfold inI at hb
  simp only [meet3S]
  rw [if_neg (by omega), if_neg (by omega), if_neg (by omega), show min b 9223372036854775807 = b by omega]
theorem meetM0 {a b : Int} (h : ¬ -9223372036854775808 < b) : meet3S [a, b, -9223372036854775807, 9223372036854775807] = some [0, 0, 0] := by
  simp only [meet3S]
  rw [if_pos (by omega), if_pos (by omega), if_pos (by omega)]
theorem wq {v w : Int} (hv : inI v) (hw : w ≠ 0) (hu : ¬ (v = -9223372036854775808 ∧ w = -1)) : w64 (v.tdiv w) = v.tdiv w := w64_id (tdiv_in hv hw hu)
noncomputable def quotR (k a b c d : Int) : List Int :=
  [extLo Int.tdiv (DivS a b c d), extHi Int.tdiv (DivS a b c d), if someD b c d then 1 else 0, if c ≤ 0 ∧ 0 ≤ d then 1 else 0, if k = 1 ∧ (a ≤ -9223372036854775808 ∧ -9223372036854775808 ≤ b) ∧ c ≤ -1 ∧ -1 ≤ d then 1 else 0]
noncomputable def quotS : List Int → Option (List Int)
  | [k, a, b, c, d] => if (k = 1 ∨ k = 2) ∧ in4 a b c d ∧ a ≤ b ∧ c ≤ d then some (quotR k a b c d) else none
  | _ => none
def sg67 : Sig := ⟨[I, RG, RG], [EFF]⟩
def t67x1 : T := (.call 91 [(.v 3), (.v 4), (.n 0)] 1 (.call 91 [(.v 1), (.v 2), (.n (-9223372036854775808))] 1 (.br (.not (.cmp .eq (.v 6) (.n 0))) (.call 91 [(.v 3), (.v 4), (.n (-1))] 1 (.call 32 [(.v 3), (.v 4), (.n 1), (.n 9223372036854775807)] 3 (.br (.not (.cmp .eq (.v 10) (.n 0))) (.br (.cmp .eq (.v 8) (.n 0)) (.fail 147) (.lt (.quo .i64 (.v 1) (.v 8)) (.br (.cmp .eq (.v 9) (.n 0)) (.fail 147) (.lt (.quo .i64 (.v 1) (.v 9)) (.lt (.quo .i64 (.v 2) (.v 8)) (.lt (.quo .i64 (.v 2) (.v 9)) (.call 32 [(.v 3), (.v 4), (.n (-9223372036854775808)), (.n (-2))] 3 (.br (.not (.cmp .eq (.v 17) (.n 0))) (.br (.cmp .eq (.v 15) (.n 0)) (.fail 147) (.lt (.quo .i64 (.v 1) (.v 15)) (.br (.cmp .eq (.v 16) (.n 0)) (.fail 147) (.lt (.quo .i64 (.v 1) (.v 16)) (.lt (.quo .i64 (.v 2) (.v 15)) (.lt (.quo .i64 (.v 2) (.v 16)) (.call 32 [(.v 1), (.v 2), (.n (-9223372036854775807)), (.n 9223372036854775807)] 3 (.br (.not (.cmp .eq (.v 24) (.n 0))) (.call 91 [(.v 3), (.v 4), (.n (-1))] 1 (.br (.and (.not (.cmp .eq (.v 24) (.n 0))) (.not (.cmp .eq (.v 25) (.n 0)))) (.lt (.quo .i64 (.v 22) (.n (-1))) (.lt (.quo .i64 (.v 22) (.n (-1))) (.lt (.quo .i64 (.v 23) (.n (-1))) (.lt (.quo .i64 (.v 23) (.n (-1))) (.lt (.mn (.v 11) (.v 11)) (.lt (.mx (.v 11) (.v 11)) (.lt (.mn (.v 30) (.v 12)) (.lt (.mx (.v 31) (.v 12)) (.lt (.mn (.v 32) (.v 13)) (.lt (.mx (.v 33) (.v 13)) (.lt (.mn (.v 34) (.v 14)) (.lt (.mx (.v 35) (.v 14)) (.lt (.mn (.v 36) (.v 18)) (.lt (.mx (.v 37) (.v 18)) (.lt (.mn (.v 38) (.v 19)) (.lt (.mx (.v 39) (.v 19)) (.lt (.mn (.v 40) (.v 20)) (.lt (.mx (.v 41) (.v 20)) (.lt (.mn (.v 42) (.v 21)) (.lt (.mx (.v 43) (.v 21)) (.lt (.mn (.v 44) (.v 26)) (.lt (.mx (.v 45) (.v 26)) (.lt (.mn (.v 46) (.v 27)) (.lt (.mx (.v 47) (.v 27)) (.lt (.mn (.v 48) (.v 28)) (.lt (.mx (.v 49) (.v 28)) (.lt (.mn (.v 50) (.v 29)) (.lt (.mx (.v 51) (.v 29)) (.lt (.sel (.not (.cmp .eq (.v 5) (.n 0))) (.n 1) (.n 0)) (.lt (.sel (.and (.not (.cmp .eq (.v 6) (.n 0))) (.not (.cmp .eq (.v 7) (.n 0)))) (.n 1) (.n 0)) (.ret [(.v 52), (.v 53), (.n 1), (.v 54), (.v 55)]))))))))))))))))))))))))))))))) (.lt (.mn (.v 11) (.v 11)) (.lt (.mx (.v 11) (.v 11)) (.lt (.mn (.v 26) (.v 12)) (.lt (.mx (.v 27) (.v 12)) (.lt (.mn (.v 28) (.v 13)) (.lt (.mx (.v 29) (.v 13)) (.lt (.mn (.v 30) (.v 14)) (.lt (.mx (.v 31) (.v 14)) (.lt (.mn (.v 32) (.v 18)) (.lt (.mx (.v 33) (.v 18)) (.lt (.mn (.v 34) (.v 19)) (.lt (.mx (.v 35) (.v 19)) (.lt (.mn (.v 36) (.v 20)) (.lt (.mx (.v 37) (.v 20)) (.lt (.mn (.v 38) (.v 21)) (.lt (.mx (.v 39) (.v 21)) (.lt (.sel (.not (.cmp .eq (.v 5) (.n 0))) (.n 1) (.n 0)) (.lt (.sel (.and (.not (.cmp .eq (.v 6) (.n 0))) (.not (.cmp .eq (.v 7) (.n 0)))) (.n 1) (.n 0)) (.ret [(.v 40), (.v 41), (.n 1), (.v 42), (.v 43)]))))))))))))))))))))) (.lt (.mn (.v 11) (.v 11)) (.lt (.mx (.v 11) (.v 11)) (.lt (.mn (.v 25) (.v 12)) (.lt (.mx (.v 26) (.v 12)) (.lt (.mn (.v 27) (.v 13)) (.lt (.mx (.v 28) (.v 13)) (.lt (.mn (.v 29) (.v 14)) (.lt (.mx (.v 30) (.v 14)) (.lt (.mn (.v 31) (.v 18)) (.lt (.mx (.v 32) (.v 18)) (.lt (.mn (.v 33) (.v 19)) (.lt (.mx (.v 34) (.v 19)) (.lt (.mn (.v 35) (.v 20)) (.lt (.mx (.v 36) (.v 20)) (.lt (.mn (.v 37) (.v 21)) (.lt (.mx (.v 38) (.v 21)) (.lt (.sel (.not (.cmp .eq (.v 5) (.n 0))) (.n 1) (.n 0)) (.lt (.sel (.and (.not (.cmp .eq (.v 6) (.n 0))) (.not (.cmp .eq (.v 7) (.n 0)))) (.n 1) (.n 0)) (.ret [(.v 39), (.v 40), (.n 1), (.v 41), (.v 42)]))))))))))))))))))))))))))) (.call 32 [(.v 1), (.v 2), (.n (-9223372036854775807)), (.n 9223372036854775807)] 3 (.br (.not (.cmp .eq (.v 20) (.n 0))) (.call 91 [(.v 3), (.v 4), (.n (-1))] 1 (.br (.and (.not (.cmp .eq (.v 20) (.n 0))) (.not (.cmp .eq (.v 21) (.n 0)))) (.lt (.quo .i64 (.v 18) (.n (-1))) (.lt (.quo .i64 (.v 18) (.n (-1))) (.lt (.quo .i64 (.v 19) (.n (-1))) (.lt (.quo .i64 (.v 19) (.n (-1))) (.lt (.mn (.v 11) (.v 11)) (.lt (.mx (.v 11) (.v 11)) (.lt (.mn (.v 26) (.v 12)) (.lt (.mx (.v 27) (.v 12)) (.lt (.mn (.v 28) (.v 13)) (.lt (.mx (.v 29) (.v 13)) (.lt (.mn (.v 30) (.v 14)) (.lt (.mx (.v 31) (.v 14)) (.lt (.mn (.v 32) (.v 22)) (.lt (.mx (.v 33) (.v 22)) (.lt (.mn (.v 34) (.v 23)) (.lt (.mx (.v 35) (.v 23)) (.lt (.mn (.v 36) (.v 24)) (.lt (.mx (.v 37) (.v 24)) (.lt (.mn (.v 38) (.v 25)) (.lt (.mx (.v 39) (.v 25)) (.lt (.sel (.not (.cmp .eq (.v 5) (.n 0))) (.n 1) (.n 0)) (.lt (.sel (.and (.not (.cmp .eq (.v 6) (.n 0))) (.not (.cmp .eq (.v 7) (.n 0)))) (.n 1) (.n 0)) (.ret [(.v 40), (.v 41), (.n 1), (.v 42), (.v 43)]))))))))))))))))))))))) (.lt (.mn (.v 11) (.v 11)) (.lt (.mx (.v 11) (.v 11)) (.lt (.mn (.v 22) (.v 12)) (.lt (.mx (.v 23) (.v 12)) (.lt (.mn (.v 24) (.v 13)) (.lt (.mx (.v 25) (.v 13)) (.lt (.mn (.v 26) (.v 14)) (.lt (.mx (.v 27) (.v 14)) (.lt (.sel (.not (.cmp .eq (.v 5) (.n 0))) (.n 1) (.n 0)) (.lt (.sel (.and (.not (.cmp .eq (.v 6) (.n 0))) (.not (.cmp .eq (.v 7) (.n 0)))) (.n 1) (.n 0)) (.ret [(.v 28), (.v 29), (.n 1), (.v 30), (.v 31)]))))))))))))) (.lt (.mn (.v 11) (.v 11)) (.lt (.mx (.v 11) (.v 11)) (.lt (.mn (.v 21) (.v 12)) (.lt (.mx (.v 22) (.v 12)) (.lt (.mn (.v 23) (.v 13)) (.lt (.mx (.v 24) (.v 13)) (.lt (.mn (.v 25) (.v 14)) (.lt (.mx (.v 26) (.v 14)) (.lt (.sel (.not (.cmp .eq (.v 5) (.n 0))) (.n 1) (.n 0)) (.lt (.sel (.and (.not (.cmp .eq (.v 6) (.n 0))) (.not (.cmp .eq (.v 7) (.n 0)))) (.n 1) (.n 0)) (.ret [(.v 27), (.v 28), (.n 1), (.v 29), (.v 30)]))))))))))))))))))))) (.call 32 [(.v 3), (.v 4), (.n (-9223372036854775808)), (.n (-2))] 3 (.br (.not (.cmp .eq (.v 13) (.n 0))) (.br (.cmp .eq (.v 11) (.n 0)) (.fail 147) (.lt (.quo .i64 (.v 1) (.v 11)) (.br (.cmp .eq (.v 12) (.n 0)) (.fail 147) (.lt (.quo .i64 (.v 1) (.v 12)) (.lt (.quo .i64 (.v 2) (.v 11)) (.lt (.quo .i64 (.v 2) (.v 12)) (.call 32 [(.v 1), (.v 2), (.n (-9223372036854775807)), (.n 9223372036854775807)] 3 (.br (.not (.cmp .eq (.v 20) (.n 0))) (.call 91 [(.v 3), (.v 4), (.n (-1))] 1 (.br (.and (.not (.cmp .eq (.v 20) (.n 0))) (.not (.cmp .eq (.v 21) (.n 0)))) (.lt (.quo .i64 (.v 18) (.n (-1))) (.lt (.quo .i64 (.v 18) (.n (-1))) (.lt (.quo .i64 (.v 19) (.n (-1))) (.lt (.quo .i64 (.v 19) (.n (-1))) (.lt (.mn (.v 14) (.v 14)) (.lt (.mx (.v 14) (.v 14)) (.lt (.mn (.v 26) (.v 15)) (.lt (.mx (.v 27) (.v 15)) (.lt (.mn (.v 28) (.v 16)) (.lt (.mx (.v 29) (.v 16)) (.lt (.mn (.v 30) (.v 17)) (.lt (.mx (.v 31) (.v 17)) (.lt (.mn (.v 32) (.v 22)) (.lt (.mx (.v 33) (.v 22)) (.lt (.mn (.v 34) (.v 23)) (.lt (.mx (.v 35) (.v 23)) (.lt (.mn (.v 36) (.v 24)) (.lt (.mx (.v 37) (.v 24)) (.lt (.mn (.v 38) (.v 25)) (.lt (.mx (.v 39) (.v 25)) (.lt (.sel (.not (.cmp .eq (.v 5) (.n 0))) (.n 1) (.n 0)) (.lt (.sel (.and (.not (.cmp .eq (.v 6) (.n 0))) (.not (.cmp .eq (.v 7) (.n 0)))) (.n 1) (.n 0)) (.ret [(.v 40), (.v 41), (.n 1), (.v 42), (.v 43)]))))))))))))))))))))))) (.lt (.mn (.v 14) (.v 14)) (.lt (.mx (.v 14) (.v 14)) (.lt (.mn (.v 22) (.v 15)) (.lt (.mx (.v 23) (.v 15)) (.lt (.mn (.v 24) (.v 16)) (.lt (.mx (.v 25) (.v 16)) (.lt (.mn (.v 26) (.v 17)) (.lt (.mx (.v 27) (.v 17)) (.lt (.sel (.not (.cmp .eq (.v 5) (.n 0))) (.n 1) (.n 0)) (.lt (.sel (.and (.not (.cmp .eq (.v 6) (.n 0))) (.not (.cmp .eq (.v 7) (.n 0)))) (.n 1) (.n 0)) (.ret [(.v 28), (.v 29), (.n 1), (.v 30), (.v 31)]))))))))))))) (.lt (.mn (.v 14) (.v 14)) (.lt (.mx (.v 14) (.v 14)) (.lt (.mn (.v 21) (.v 15)) (.lt (.mx (.v 22) (.v 15)) (.lt (.mn (.v 23) (.v 16)) (.lt (.mx (.v 24) (.v 16)) (.lt (.mn (.v 25) (.v 17)) (.lt (.mx (.v 26) (.v 17)) (.lt (.sel (.not (.cmp .eq (.v 5) (.n 0))) (.n 1) (.n 0)) (.lt (.sel (.and (.not (.cmp .eq (.v 6) (.n 0))) (.not (.cmp .eq (.v 7) (.n 0)))) (.n 1) (.n 0)) (.ret [(.v 27), (.v 28), (.n 1), (.v 29), (.v 30)]))))))))))))))))))) (.call 32 [(.v 1), (.v 2), (.n (-9223372036854775807)), (.n 9223372036854775807)] 3 (.br (.not (.cmp .eq (.v 16) (.n 0))) (.call 91 [(.v 3), (.v 4), (.n (-1))] 1 (.br (.and (.not (.cmp .eq (.v 16) (.n 0))) (.not (.cmp .eq (.v 17) (.n 0)))) (.lt (.quo .i64 (.v 14) (.n (-1))) (.lt (.quo .i64 (.v 14) (.n (-1))) (.lt (.quo .i64 (.v 15) (.n (-1))) (.lt (.quo .i64 (.v 15) (.n (-1))) (.lt (.mn (.v 18) (.v 18)) (.lt (.mx (.v 18) (.v 18)) (.lt (.mn (.v 22) (.v 19)) (.lt (.mx (.v 23) (.v 19)) (.lt (.mn (.v 24) (.v 20)) (.lt (.mx (.v 25) (.v 20)) (.lt (.mn (.v 26) (.v 21)) (.lt (.mx (.v 27) (.v 21)) (.lt (.sel (.not (.cmp .eq (.v 5) (.n 0))) (.n 1) (.n 0)) (.lt (.sel (.and (.not (.cmp .eq (.v 6) (.n 0))) (.not (.cmp .eq (.v 7) (.n 0)))) (.n 1) (.n 0)) (.ret [(.v 28), (.v 29), (.n 1), (.v 30), (.v 31)]))))))))))))))) (.lt (.sel (.not (.cmp .eq (.v 5) (.n 0))) (.n 1) (.n 0)) (.lt (.sel (.and (.not (.cmp .eq (.v 6) (.n 0))) (.not (.cmp .eq (.v 7) (.n 0)))) (.n 1) (.n 0)) (.ret [(.n 0), (.n 0), (.n 0), (.v 18), (.v 19)]))))) (.lt (.sel (.not (.cmp .eq (.v 5) (.n 0))) (.n 1) (.n 0)) (.lt (.sel (.and (.not (.cmp .eq (.v 6) (.n 0))) (.not (.cmp .eq (.v 7) (.n 0)))) (.n 1) (.n 0)) (.ret [(.n 0), (.n 0), (.n 0), (.v 17), (.v 18)])))))))))) (.call 32 [(.v 3), (.v 4), (.n 1), (.n 9223372036854775807)] 3 (.br (.not (.cmp .eq (.v 9) (.n 0))) (.br (.cmp .eq (.v 7) (.n 0)) (.fail 147) (.lt (.quo .i64 (.v 1) (.v 7)) (.br (.cmp .eq (.v 8) (.n 0)) (.fail 147) (.lt (.quo .i64 (.v 1) (.v 8)) (.lt (.quo .i64 (.v 2) (.v 7)) (.lt (.quo .i64 (.v 2) (.v 8)) (.call 32 [(.v 3), (.v 4), (.n (-9223372036854775808)), (.n (-2))] 3 (.br (.not (.cmp .eq (.v 16) (.n 0))) (.br (.cmp .eq (.v 14) (.n 0)) (.fail 147) (.lt (.quo .i64 (.v 1) (.v 14)) (.br (.cmp .eq (.v 15) (.n 0)) (.fail 147) (.lt (.quo .i64 (.v 1) (.v 15)) (.lt (.quo .i64 (.v 2) (.v 14)) (.lt (.quo .i64 (.v 2) (.v 15)) (.call 32 [(.v 1), (.v 2), (.n (-9223372036854775807)), (.n 9223372036854775807)] 3 (.br (.not (.cmp .eq (.v 23) (.n 0))) (.call 91 [(.v 3), (.v 4), (.n (-1))] 1 (.br (.and (.not (.cmp .eq (.v 23) (.n 0))) (.not (.cmp .eq (.v 24) (.n 0)))) (.lt (.quo .i64 (.v 21) (.n (-1))) (.lt (.quo .i64 (.v 21) (.n (-1))) (.lt (.quo .i64 (.v 22) (.n (-1))) (.lt (.quo .i64 (.v 22) (.n (-1))) (.lt (.mn (.v 10) (.v 10)) (.lt (.mx (.v 10) (.v 10)) (.lt (.mn (.v 29) (.v 11)) (.lt (.mx (.v 30) (.v 11)) (.lt (.mn (.v 31) (.v 12)) (.lt (.mx (.v 32) (.v 12)) (.lt (.mn (.v 33) (.v 13)) (.lt (.mx (.v 34) (.v 13)) (.lt (.mn (.v 35) (.v 17)) (.lt (.mx (.v 36) (.v 17)) (.lt (.mn (.v 37) (.v 18)) (.lt (.mx (.v 38) (.v 18)) (.lt (.mn (.v 39) (.v 19)) (.lt (.mx (.v 40) (.v 19)) (.lt (.mn (.v 41) (.v 20)) (.lt (.mx (.v 42) (.v 20)) (.lt (.mn (.v 43) (.v 25)) (.lt (.mx (.v 44) (.v 25)) (.lt (.mn (.v 45) (.v 26)) (.lt (.mx (.v 46) (.v 26)) (.lt (.mn (.v 47) (.v 27)) (.lt (.mx (.v 48) (.v 27)) (.lt (.mn (.v 49) (.v 28)) (.lt (.mx (.v 50) (.v 28)) (.lt (.sel (.not (.cmp .eq (.v 5) (.n 0))) (.n 1) (.n 0)) (.ret [(.v 51), (.v 52), (.n 1), (.v 53), (.n 0)])))))))))))))))))))))))))))))) (.lt (.mn (.v 10) (.v 10)) (.lt (.mx (.v 10) (.v 10)) (.lt (.mn (.v 25) (.v 11)) (.lt (.mx (.v 26) (.v 11)) (.lt (.mn (.v 27) (.v 12)) (.lt (.mx (.v 28) (.v 12)) (.lt (.mn (.v 29) (.v 13)) (.lt (.mx (.v 30) (.v 13)) (.lt (.mn (.v 31) (.v 17)) (.lt (.mx (.v 32) (.v 17)) (.lt (.mn (.v 33) (.v 18)) (.lt (.mx (.v 34) (.v 18)) (.lt (.mn (.v 35) (.v 19)) (.lt (.mx (.v 36) (.v 19)) (.lt (.mn (.v 37) (.v 20)) (.lt (.mx (.v 38) (.v 20)) (.lt (.sel (.not (.cmp .eq (.v 5) (.n 0))) (.n 1) (.n 0)) (.ret [(.v 39), (.v 40), (.n 1), (.v 41), (.n 0)])))))))))))))))))))) (.lt (.mn (.v 10) (.v 10)) (.lt (.mx (.v 10) (.v 10)) (.lt (.mn (.v 24) (.v 11)) (.lt (.mx (.v 25) (.v 11)) (.lt (.mn (.v 26) (.v 12)) (.lt (.mx (.v 27) (.v 12)) (.lt (.mn (.v 28) (.v 13)) (.lt (.mx (.v 29) (.v 13)) (.lt (.mn (.v 30) (.v 17)) (.lt (.mx (.v 31) (.v 17)) (.lt (.mn (.v 32) (.v 18)) (.lt (.mx (.v 33) (.v 18)) (.lt (.mn (.v 34) (.v 19)) (.lt (.mx (.v 35) (.v 19)) (.lt (.mn (.v 36) (.v 20)) (.lt (.mx (.v 37) (.v 20)) (.lt (.sel (.not (.cmp .eq (.v 5) (.n 0))) (.n 1) (.n 0)) (.ret [(.v 38), (.v 39), (.n 1), (.v 40), (.n 0)])))))))))))))))))))))))))) (.call 32 [(.v 1), (.v 2), (.n (-9223372036854775807)), (.n 9223372036854775807)] 3 (.br (.not (.cmp .eq (.v 19) (.n 0))) (.call 91 [(.v 3), (.v 4), (.n (-1))] 1 (.br (.and (.not (.cmp .eq (.v 19) (.n 0))) (.not (.cmp .eq (.v 20) (.n 0)))) (.lt (.quo .i64 (.v 17) (.n (-1))) (.lt (.quo .i64 (.v 17) (.n (-1))) (.lt (.quo .i64 (.v 18) (.n (-1))) (.lt (.quo .i64 (.v 18) (.n (-1))) (.lt (.mn (.v 10) (.v 10)) (.lt (.mx (.v 10) (.v 10)) (.lt (.mn (.v 25) (.v 11)) (.lt (.mx (.v 26) (.v 11)) (.lt (.mn (.v 27) (.v 12)) (.lt (.mx (.v 28) (.v 12)) (.lt (.mn (.v 29) (.v 13)) (.lt (.mx (.v 30) (.v 13)) (.lt (.mn (.v 31) (.v 21)) (.lt (.mx (.v 32) (.v 21)) (.lt (.mn (.v 33) (.v 22)) (.lt (.mx (.v 34) (.v 22)) (.lt (.mn (.v 35) (.v 23)) (.lt (.mx (.v 36) (.v 23)) (.lt (.mn (.v 37) (.v 24)) (.lt (.mx (.v 38) (.v 24)) (.lt (.sel (.not (.cmp .eq (.v 5) (.n 0))) (.n 1) (.n 0)) (.ret [(.v 39), (.v 40), (.n 1), (.v 41), (.n 0)])))))))))))))))))))))) (.lt (.mn (.v 10) (.v 10)) (.lt (.mx (.v 10) (.v 10)) (.lt (.mn (.v 21) (.v 11)) (.lt (.mx (.v 22) (.v 11)) (.lt (.mn (.v 23) (.v 12)) (.lt (.mx (.v 24) (.v 12)) (.lt (.mn (.v 25) (.v 13)) (.lt (.mx (.v 26) (.v 13)) (.lt (.sel (.not (.cmp .eq (.v 5) (.n 0))) (.n 1) (.n 0)) (.ret [(.v 27), (.v 28), (.n 1), (.v 29), (.n 0)])))))))))))) (.lt (.mn (.v 10) (.v 10)) (.lt (.mx (.v 10) (.v 10)) (.lt (.mn (.v 20) (.v 11)) (.lt (.mx (.v 21) (.v 11)) (.lt (.mn (.v 22) (.v 12)) (.lt (.mx (.v 23) (.v 12)) (.lt (.mn (.v 24) (.v 13)) (.lt (.mx (.v 25) (.v 13)) (.lt (.sel (.not (.cmp .eq (.v 5) (.n 0))) (.n 1) (.n 0)) (.ret [(.v 26), (.v 27), (.n 1), (.v 28), (.n 0)])))))))))))))))))))) (.call 32 [(.v 3), (.v 4), (.n (-9223372036854775808)), (.n (-2))] 3 (.br (.not (.cmp .eq (.v 12) (.n 0))) (.br (.cmp .eq (.v 10) (.n 0)) (.fail 147) (.lt (.quo .i64 (.v 1) (.v 10)) (.br (.cmp .eq (.v 11) (.n 0)) (.fail 147) (.lt (.quo .i64 (.v 1) (.v 11)) (.lt (.quo .i64 (.v 2) (.v 10)) (.lt (.quo .i64 (.v 2) (.v 11)) (.call 32 [(.v 1), (.v 2), (.n (-9223372036854775807)), (.n 9223372036854775807)] 3 (.br (.not (.cmp .eq (.v 19) (.n 0))) (.call 91 [(.v 3), (.v 4), (.n (-1))] 1 (.br (.and (.not (.cmp .eq (.v 19) (.n 0))) (.not (.cmp .eq (.v 20) (.n 0)))) (.lt (.quo .i64 (.v 17) (.n (-1))) (.lt (.quo .i64 (.v 17) (.n (-1))) (.lt (.quo .i64 (.v 18) (.n (-1))) (.lt (.quo .i64 (.v 18) (.n (-1))) (.lt (.mn (.v 13) (.v 13)) (.lt (.mx (.v 13) (.v 13)) (.lt (.mn (.v 25) (.v 14)) (.lt (.mx (.v 26) (.v 14)) (.lt (.mn (.v 27) (.v 15)) (.lt (.mx (.v 28) (.v 15)) (.lt (.mn (.v 29) (.v 16)) (.lt (.mx (.v 30) (.v 16)) (.lt (.mn (.v 31) (.v 21)) (.lt (.mx (.v 32) (.v 21)) (.lt (.mn (.v 33) (.v 22)) (.lt (.mx (.v 34) (.v 22)) (.lt (.mn (.v 35) (.v 23)) (.lt (.mx (.v 36) (.v 23)) (.lt (.mn (.v 37) (.v 24)) (.lt (.mx (.v 38) (.v 24)) (.lt (.sel (.not (.cmp .eq (.v 5) (.n 0))) (.n 1) (.n 0)) (.ret [(.v 39), (.v 40), (.n 1), (.v 41), (.n 0)])))))))))))))))))))))) (.lt (.mn (.v 13) (.v 13)) (.lt (.mx (.v 13) (.v 13)) (.lt (.mn (.v 21) (.v 14)) (.lt (.mx (.v 22) (.v 14)) (.lt (.mn (.v 23) (.v 15)) (.lt (.mx (.v 24) (.v 15)) (.lt (.mn (.v 25) (.v 16)) (.lt (.mx (.v 26) (.v 16)) (.lt (.sel (.not (.cmp .eq (.v 5) (.n 0))) (.n 1) (.n 0)) (.ret [(.v 27), (.v 28), (.n 1), (.v 29), (.n 0)])))))))))))) (.lt (.mn (.v 13) (.v 13)) (.lt (.mx (.v 13) (.v 13)) (.lt (.mn (.v 20) (.v 14)) (.lt (.mx (.v 21) (.v 14)) (.lt (.mn (.v 22) (.v 15)) (.lt (.mx (.v 23) (.v 15)) (.lt (.mn (.v 24) (.v 16)) (.lt (.mx (.v 25) (.v 16)) (.lt (.sel (.not (.cmp .eq (.v 5) (.n 0))) (.n 1) (.n 0)) (.ret [(.v 26), (.v 27), (.n 1), (.v 28), (.n 0)])))))))))))))))))) (.call 32 [(.v 1), (.v 2), (.n (-9223372036854775807)), (.n 9223372036854775807)] 3 (.br (.not (.cmp .eq (.v 15) (.n 0))) (.call 91 [(.v 3), (.v 4), (.n (-1))] 1 (.br (.and (.not (.cmp .eq (.v 15) (.n 0))) (.not (.cmp .eq (.v 16) (.n 0)))) (.lt (.quo .i64 (.v 13) (.n (-1))) (.lt (.quo .i64 (.v 13) (.n (-1))) (.lt (.quo .i64 (.v 14) (.n (-1))) (.lt (.quo .i64 (.v 14) (.n (-1))) (.lt (.mn (.v 17) (.v 17)) (.lt (.mx (.v 17) (.v 17)) (.lt (.mn (.v 21) (.v 18)) (.lt (.mx (.v 22) (.v 18)) (.lt (.mn (.v 23) (.v 19)) (.lt (.mx (.v 24) (.v 19)) (.lt (.mn (.v 25) (.v 20)) (.lt (.mx (.v 26) (.v 20)) (.lt (.sel (.not (.cmp .eq (.v 5) (.n 0))) (.n 1) (.n 0)) (.ret [(.v 27), (.v 28), (.n 1), (.v 29), (.n 0)])))))))))))))) (.lt (.sel (.not (.cmp .eq (.v 5) (.n 0))) (.n 1) (.n 0)) (.ret [(.n 0), (.n 0), (.n 0), (.v 17), (.n 0)])))) (.lt (.sel (.not (.cmp .eq (.v 5) (.n 0))) (.n 1) (.n 0)) (.ret [(.n 0), (.n 0), (.n 0), (.v 16), (.n 0)])))))))))))
theorem q67x1 : sxRun (Cf [p32, p91] unAll) 200 67 sg67 ((mkS 0 sg67.ins).map (subst [(0, 1)])) [] = t67x1 := by kernel_rfl
def t67x2 : T := (.call 91 [(.v 3), (.v 4), (.n 0)] 1 (.call 32 [(.v 3), (.v 4), (.n 1), (.n 9223372036854775807)] 3 (.br (.not (.cmp .eq (.v 8) (.n 0))) (.br (.cmp .eq (.v 6) (.n 0)) (.fail 147) (.lt (.quo .i64 (.v 1) (.v 6)) (.br (.cmp .eq (.v 7) (.n 0)) (.fail 147) (.lt (.quo .i64 (.v 1) (.v 7)) (.lt (.quo .i64 (.v 2) (.v 6)) (.lt (.quo .i64 (.v 2) (.v 7)) (.call 32 [(.v 3), (.v 4), (.n (-9223372036854775808)), (.n (-2))] 3 (.br (.not (.cmp .eq (.v 15) (.n 0))) (.br (.cmp .eq (.v 13) (.n 0)) (.fail 147) (.lt (.quo .i64 (.v 1) (.v 13)) (.br (.cmp .eq (.v 14) (.n 0)) (.fail 147) (.lt (.quo .i64 (.v 1) (.v 14)) (.lt (.quo .i64 (.v 2) (.v 13)) (.lt (.quo .i64 (.v 2) (.v 14)) (.call 32 [(.v 1), (.v 2), (.n (-9223372036854775807)), (.n 9223372036854775807)] 3 (.br (.not (.cmp .eq (.v 22) (.n 0))) (.call 91 [(.v 3), (.v 4), (.n (-1))] 1 (.br (.and (.not (.cmp .eq (.v 22) (.n 0))) (.not (.cmp .eq (.v 23) (.n 0)))) (.lt (.quo .i64 (.v 20) (.n (-1))) (.lt (.quo .i64 (.v 20) (.n (-1))) (.lt (.quo .i64 (.v 21) (.n (-1))) (.lt (.quo .i64 (.v 21) (.n (-1))) (.lt (.mn (.v 9) (.v 9)) (.lt (.mx (.v 9) (.v 9)) (.lt (.mn (.v 28) (.v 10)) (.lt (.mx (.v 29) (.v 10)) (.lt (.mn (.v 30) (.v 11)) (.lt (.mx (.v 31) (.v 11)) (.lt (.mn (.v 32) (.v 12)) (.lt (.mx (.v 33) (.v 12)) (.lt (.mn (.v 34) (.v 16)) (.lt (.mx (.v 35) (.v 16)) (.lt (.mn (.v 36) (.v 17)) (.lt (.mx (.v 37) (.v 17)) (.lt (.mn (.v 38) (.v 18)) (.lt (.mx (.v 39) (.v 18)) (.lt (.mn (.v 40) (.v 19)) (.lt (.mx (.v 41) (.v 19)) (.lt (.mn (.v 42) (.v 24)) (.lt (.mx (.v 43) (.v 24)) (.lt (.mn (.v 44) (.v 25)) (.lt (.mx (.v 45) (.v 25)) (.lt (.mn (.v 46) (.v 26)) (.lt (.mx (.v 47) (.v 26)) (.lt (.mn (.v 48) (.v 27)) (.lt (.mx (.v 49) (.v 27)) (.lt (.sel (.not (.cmp .eq (.v 5) (.n 0))) (.n 1) (.n 0)) (.ret [(.v 50), (.v 51), (.n 1), (.v 52), (.n 0)])))))))))))))))))))))))))))))) (.lt (.mn (.v 9) (.v 9)) (.lt (.mx (.v 9) (.v 9)) (.lt (.mn (.v 24) (.v 10)) (.lt (.mx (.v 25) (.v 10)) (.lt (.mn (.v 26) (.v 11)) (.lt (.mx (.v 27) (.v 11)) (.lt (.mn (.v 28) (.v 12)) (.lt (.mx (.v 29) (.v 12)) (.lt (.mn (.v 30) (.v 16)) (.lt (.mx (.v 31) (.v 16)) (.lt (.mn (.v 32) (.v 17)) (.lt (.mx (.v 33) (.v 17)) (.lt (.mn (.v 34) (.v 18)) (.lt (.mx (.v 35) (.v 18)) (.lt (.mn (.v 36) (.v 19)) (.lt (.mx (.v 37) (.v 19)) (.lt (.sel (.not (.cmp .eq (.v 5) (.n 0))) (.n 1) (.n 0)) (.ret [(.v 38), (.v 39), (.n 1), (.v 40), (.n 0)])))))))))))))))))))) (.lt (.mn (.v 9) (.v 9)) (.lt (.mx (.v 9) (.v 9)) (.lt (.mn (.v 23) (.v 10)) (.lt (.mx (.v 24) (.v 10)) (.lt (.mn (.v 25) (.v 11)) (.lt (.mx (.v 26) (.v 11)) (.lt (.mn (.v 27) (.v 12)) (.lt (.mx (.v 28) (.v 12)) (.lt (.mn (.v 29) (.v 16)) (.lt (.mx (.v 30) (.v 16)) (.lt (.mn (.v 31) (.v 17)) (.lt (.mx (.v 32) (.v 17)) (.lt (.mn (.v 33) (.v 18)) (.lt (.mx (.v 34) (.v 18)) (.lt (.mn (.v 35) (.v 19)) (.lt (.mx (.v 36) (.v 19)) (.lt (.sel (.not (.cmp .eq (.v 5) (.n 0))) (.n 1) (.n 0)) (.ret [(.v 37), (.v 38), (.n 1), (.v 39), (.n 0)])))))))))))))))))))))))))) (.call 32 [(.v 1), (.v 2), (.n (-9223372036854775807)), (.n 9223372036854775807)] 3 (.br (.not (.cmp .eq (.v 18) (.n 0))) (.call 91 [(.v 3), (.v 4), (.n (-1))] 1 (.br (.and (.not (.cmp .eq (.v 18) (.n 0))) (.not (.cmp .eq (.v 19) (.n 0)))) (.lt (.quo .i64 (.v 16) (.n (-1))) (.lt (.quo .i64 (.v 16) (.n (-1))) (.lt (.quo .i64 (.v 17) (.n (-1))) (.lt (.quo .i64 (.v 17) (.n (-1))) (.lt (.mn (.v 9) (.v 9)) (.lt (.mx (.v 9) (.v 9)) (.lt (.mn (.v 24) (.v 10)) (.lt (.mx (.v 25) (.v 10)) (.lt (.mn (.v 26) (.v 11)) (.lt (.mx (.v 27) (.v 11)) (.lt (.mn (.v 28) (.v 12)) (.lt (.mx (.v 29) (.v 12)) (.lt (.mn (.v 30) (.v 20)) (.lt (.mx (.v 31) (.v 20)) (.lt (.mn (.v 32) (.v 21)) (.lt (.mx (.v 33) (.v 21)) (.lt (.mn (.v 34) (.v 22)) (.lt (.mx (.v 35) (.v 22)) (.lt (.mn (.v 36) (.v 23)) (.lt (.mx (.v 37) (.v 23)) (.lt (.sel (.not (.cmp .eq (.v 5) (.n 0))) (.n 1) (.n 0)) (.ret [(.v 38), (.v 39), (.n 1), (.v 40), (.n 0)])))))))))))))))))))))) (.lt (.mn (.v 9) (.v 9)) (.lt (.mx (.v 9) (.v 9)) (.lt (.mn (.v 20) (.v 10)) (.lt (.mx (.v 21) (.v 10)) (.lt (.mn (.v 22) (.v 11)) (.lt (.mx (.v 23) (.v 11)) (.lt (.mn (.v 24) (.v 12)) (.lt (.mx (.v 25) (.v 12)) (.lt (.sel (.not (.cmp .eq (.v 5) (.n 0))) (.n 1) (.n 0)) (.ret [(.v 26), (.v 27), (.n 1), (.v 28), (.n 0)])))))))))))) (.lt (.mn (.v 9) (.v 9)) (.lt (.mx (.v 9) (.v 9)) (.lt (.mn (.v 19) (.v 10)) (.lt (.mx (.v 20) (.v 10)) (.lt (.mn (.v 21) (.v 11)) (.lt (.mx (.v 22) (.v 11)) (.lt (.mn (.v 23) (.v 12)) (.lt (.mx (.v 24) (.v 12)) (.lt (.sel (.not (.cmp .eq (.v 5) (.n 0))) (.n 1) (.n 0)) (.ret [(.v 25), (.v 26), (.n 1), (.v 27), (.n 0)])))))))))))))))))))) (.call 32 [(.v 3), (.v 4), (.n (-9223372036854775808)), (.n (-2))] 3 (.br (.not (.cmp .eq (.v 11) (.n 0))) (.br (.cmp .eq (.v 9) (.n 0)) (.fail 147) (.lt (.quo .i64 (.v 1) (.v 9)) (.br (.cmp .eq (.v 10) (.n 0)) (.fail 147) (.lt (.quo .i64 (.v 1) (.v 10)) (.lt (.quo .i64 (.v 2) (.v 9)) (.lt (.quo .i64 (.v 2) (.v 10)) (.call 32 [(.v 1), (.v 2), (.n (-9223372036854775807)), (.n 9223372036854775807)] 3 (.br (.not (.cmp .eq (.v 18) (.n 0))) (.call 91 [(.v 3), (.v 4), (.n (-1))] 1 (.br (.and (.not (.cmp .eq (.v 18) (.n 0))) (.not (.cmp .eq (.v 19) (.n 0)))) (.lt (.quo .i64 (.v 16) (.n (-1))) (.lt (.quo .i64 (.v 16) (.n (-1))) (.lt (.quo .i64 (.v 17) (.n (-1))) (.lt (.quo .i64 (.v 17) (.n (-1))) (.lt (.mn (.v 12) (.v 12)) (.lt (.mx (.v 12) (.v 12)) (.lt (.mn (.v 24) (.v 13)) (.lt (.mx (.v 25) (.v 13)) (.lt (.mn (.v 26) (.v 14)) (.lt (.mx (.v 27) (.v 14)) (.lt (.mn (.v 28) (.v 15)) (.lt (.mx (.v 29) (.v 15)) (.lt (.mn (.v 30) (.v 20)) (.lt (.mx (.v 31) (.v 20)) (.lt (.mn (.v 32) (.v 21)) (.lt (.mx (.v 33) (.v 21)) (.lt (.mn (.v 34) (.v 22)) (.lt (.mx (.v 35) (.v 22)) (.lt (.mn (.v 36) (.v 23)) (.lt (.mx (.v 37) (.v 23)) (.lt (.sel (.not (.cmp .eq (.v 5) (.n 0))) (.n 1) (.n 0)) (.ret [(.v 38), (.v 39), (.n 1), (.v 40), (.n 0)])))))))))))))))))))))) (.lt (.mn (.v 12) (.v 12)) (.lt (.mx (.v 12) (.v 12)) (.lt (.mn (.v 20) (.v 13)) (.lt (.mx (.v 21) (.v 13)) (.lt (.mn (.v 22) (.v 14)) (.lt (.mx (.v 23) (.v 14)) (.lt (.mn (.v 24) (.v 15)) (.lt (.mx (.v 25) (.v 15)) (.lt (.sel (.not (.cmp .eq (.v 5) (.n 0))) (.n 1) (.n 0)) (.ret [(.v 26), (.v 27), (.n 1), (.v 28), (.n 0)])))))))))))) (.lt (.mn (.v 12) (.v 12)) (.lt (.mx (.v 12) (.v 12)) (.lt (.mn (.v 19) (.v 13)) (.lt (.mx (.v 20) (.v 13)) (.lt (.mn (.v 21) (.v 14)) (.lt (.mx (.v 22) (.v 14)) (.lt (.mn (.v 23) (.v 15)) (.lt (.mx (.v 24) (.v 15)) (.lt (.sel (.not (.cmp .eq (.v 5) (.n 0))) (.n 1) (.n 0)) (.ret [(.v 25), (.v 26), (.n 1), (.v 27), (.n 0)])))))))))))))))))) (.call 32 [(.v 1), (.v 2), (.n (-9223372036854775807)), (.n 9223372036854775807)] 3 (.br (.not (.cmp .eq (.v 14) (.n 0))) (.call 91 [(.v 3), (.v 4), (.n (-1))] 1 (.br (.and (.not (.cmp .eq (.v 14) (.n 0))) (.not (.cmp .eq (.v 15) (.n 0)))) (.lt (.quo .i64 (.v 12) (.n (-1))) (.lt (.quo .i64 (.v 12) (.n (-1))) (.lt (.quo .i64 (.v 13) (.n (-1))) (.lt (.quo .i64 (.v 13) (.n (-1))) (.lt (.mn (.v 16) (.v 16)) (.lt (.mx (.v 16) (.v 16)) (.lt (.mn (.v 20) (.v 17)) (.lt (.mx (.v 21) (.v 17)) (.lt (.mn (.v 22) (.v 18)) (.lt (.mx (.v 23) (.v 18)) (.lt (.mn (.v 24) (.v 19)) (.lt (.mx (.v 25) (.v 19)) (.lt (.sel (.not (.cmp .eq (.v 5) (.n 0))) (.n 1) (.n 0)) (.ret [(.v 26), (.v 27), (.n 1), (.v 28), (.n 0)])))))))))))))) (.lt (.sel (.not (.cmp .eq (.v 5) (.n 0))) (.n 1) (.n 0)) (.ret [(.n 0), (.n 0), (.n 0), (.v 16), (.n 0)])))) (.lt (.sel (.not (.cmp .eq (.v 5) (.n 0))) (.n 1) (.n 0)) (.ret [(.n 0), (.n 0), (.n 0), (.v 15), (.n 0)])))))))))
theorem q67x2 : sxRun (Cf [p32, p91] unAll) 200 67 sg67 ((mkS 0 sg67.ins).map (subst [(0, 2)])) [] = t67x2 := by kernel_rfl
theorem quotR_eq {k a b c d : Int} (ha : inI a) (hab : a ≤ b) (hcd : c ≤ d) (h : someD b c d) : quotR k a b c d = [minL ((boxesP a b c d).flatMap fun p => c4 Int.tdiv p.1 p.2.1 p.2.2.1 p.2.2.2), maxL ((boxesP a b c d).flatMap fun p => c4 Int.tdiv p.1 p.2.1 p.2.2.1 p.2.2.2), 1, if c ≤ 0 ∧ 0 ≤ d then 1 else 0, if k = 1 ∧ (a ≤ -9223372036854775808 ∧ -9223372036854775808 ≤ b) ∧ c ≤ -1 ∧ -1 ≤ d then 1 else 0] := by
  have := ext_quot ha.1 hab hcd h
  unfold quotR
  rw [extLo_eq this, extHi_eq this, if_pos h]
theorem quotR_eq0 {k a b c d : Int} (ha : inI a) (hab : a ≤ b) (hcd : c ≤ d) (h : ¬ someD b c d) : quotR k a b c d = [0, 0, 0, if c ≤ 0 ∧ 0 ≤ d then 1 else 0, if k = 1 ∧ (a ≤ -9223372036854775808 ∧ -9223372036854775808 ≤ b) ∧ c ≤ -1 ∧ -1 ≤ d then 1 else 0] := by
  have hn : ∀ v w, ¬ DivS a b c d v w := fun v w hv => h ((someD_iff ha.1 hab hcd).2 ⟨v, w, hv⟩)
  unfold quotR
  rw [extLo_none hn, extHi_none hn, if_neg h]
theorem ite_one {p : Prop} [Decidable p] : ((if p then (1 : Int) else 0) = 0) ↔ ¬ p := by split <;> simp [*]
theorem d67x1_1111 {F : Nat → List Int → Option (List Int)} {a b c d : Int} (g32 : F 32 = meet3S) (g91 : F 91 = containsS) (hr : in4 a b c d) (hab : a ≤ b) (hcd : c ≤ d) (p : 1 ≤ d) (n : c ≤ -2) (m : -9223372036854775808 < b) (m' : (c ≤ -1 ∧ -1 ≤ d)) : t67x1.den F 0 [1, a, b, c, d] = some (0, quotR 1 a b c d) := by
  obtain ⟨ha, hb, hc, hd⟩ := hr
  have ct : ∀ x y n, containsS [x, y, n] = some [if x ≤ n ∧ n ≤ y then 1 else 0] := fun _ _ _ => rfl
  have u1 : ∀ v, inI v → 1 ≤ d → w64 (v.tdiv (max c 1)) = v.tdiv (max c 1) ∧ w64 (v.tdiv d) = v.tdiv d := fun v hv h => ⟨wq hv (by omega) (by omega), wq hv (by omega) (by omega)⟩
  have u2 : ∀ v, inI v → c ≤ -2 → w64 (v.tdiv c) = v.tdiv c ∧ w64 (v.tdiv (min d (-2))) = v.tdiv (min d (-2)) := fun v hv h => ⟨wq hv (by omega) (by omega), wq hv (by omega) (by omega)⟩
  have u3 : -9223372036854775808 < b → w64 ((max a (-9223372036854775807)).tdiv (-1)) = (max a (-9223372036854775807)).tdiv (-1) ∧ w64 (b.tdiv (-1)) = b.tdiv (-1) := fun h => ⟨wq (by unfold inI at *; omega) (by omega) (by omega), wq hb (by omega) (by omega)⟩
  have z1 : 1 ≤ d → ¬ max c 1 = 0 ∧ ¬ d = 0 := fun h => by omega
  have z2 : c ≤ -2 → ¬ c = 0 ∧ ¬ min d (-2) = 0 := fun h => by omega
  have el : (LST : Int) + 1 = -9223372036854775807 := by decide
  obtain ⟨x1, x2⟩ := u1 a ha p
  obtain ⟨x3, x4⟩ := u1 b hb p
  obtain ⟨y1, y2⟩ := z1 p
  obtain ⟨x5, x6⟩ := u2 a ha n
  obtain ⟨x7, x8⟩ := u2 b hb n
  obtain ⟨y3, y4⟩ := z2 n
  obtain ⟨x9, x10⟩ := u3 m
  rw [quotR_eq ha hab hcd (.inl p)]
  have b1 : boxesP a b c d = [(a, b, max c 1, d), (a, b, c, min d (-2)), (max a (-9223372036854775807), b, -1, -1)] := by
    unfold boxesP
    rw [el]
    rw [if_pos p, if_pos n, if_pos (by omega)]
    rfl
  by_cases hu : a ≤ -9223372036854775808 ∧ -9223372036854775808 ≤ b
  · simp [hu, t67x1, T.den, B.den, A.den, E.den, Cm.den, g32, g91, ct, b1, c4, minL, maxL, ite_one, mn_eq, mx_eq, min_self', max_self', wrap64, p, n, m, m', x1, x2, x3, x4, y1, y2, meetP hd hcd p, x5, x6, x7, x8, y3, y4, meetN hc hcd n, x9, x10, meetM hb hab m, -Int.tdiv_neg, -Int.neg_tdiv, -Int.reduceTDiv]
  · simp [hu, t67x1, T.den, B.den, A.den, E.den, Cm.den, g32, g91, ct, b1, c4, minL, maxL, ite_one, mn_eq, mx_eq, min_self', max_self', wrap64, p, n, m, m', x1, x2, x3, x4, y1, y2, meetP hd hcd p, x5, x6, x7, x8, y3, y4, meetN hc hcd n, x9, x10, meetM hb hab m, -Int.tdiv_neg, -Int.neg_tdiv, -Int.reduceTDiv]
theorem d67x1_1110 {F : Nat → List Int → Option (List Int)} {a b c d : Int} (g32 : F 32 = meet3S) (g91 : F 91 = containsS) (hr : in4 a b c d) (hab : a ≤ b) (hcd : c ≤ d) (p : 1 ≤ d) (n : c ≤ -2) (m : -9223372036854775808 < b) (m' : ¬ (c ≤ -1 ∧ -1 ≤ d)) : t67x1.den F 0 [1, a, b, c, d] = some (0, quotR 1 a b c d) := by
  obtain ⟨ha, hb, hc, hd⟩ := hr
  have ct : ∀ x y n, containsS [x, y, n] = some [if x ≤ n ∧ n ≤ y then 1 else 0] := fun _ _ _ => rfl
  have u1 : ∀ v, inI v → 1 ≤ d → w64 (v.tdiv (max c 1)) = v.tdiv (max c 1) ∧ w64 (v.tdiv d) = v.tdiv d := fun v hv h => ⟨wq hv (by omega) (by omega), wq hv (by omega) (by omega)⟩
  have u2 : ∀ v, inI v → c ≤ -2 → w64 (v.tdiv c) = v.tdiv c ∧ w64 (v.tdiv (min d (-2))) = v.tdiv (min d (-2)) := fun v hv h => ⟨wq hv (by omega) (by omega), wq hv (by omega) (by omega)⟩
  have u3 : -9223372036854775808 < b → w64 ((max a (-9223372036854775807)).tdiv (-1)) = (max a (-9223372036854775807)).tdiv (-1) ∧ w64 (b.tdiv (-1)) = b.tdiv (-1) := fun h => ⟨wq (by unfold inI at *; omega) (by omega) (by omega), wq hb (by omega) (by omega)⟩
  have z1 : 1 ≤ d → ¬ max c 1 = 0 ∧ ¬ d = 0 := fun h => by omega
  have z2 : c ≤ -2 → ¬ c = 0 ∧ ¬ min d (-2) = 0 := fun h => by omega
  have el : (LST : Int) + 1 = -9223372036854775807 := by decide
  obtain ⟨x1, x2⟩ := u1 a ha p
  obtain ⟨x3, x4⟩ := u1 b hb p
  obtain ⟨y1, y2⟩ := z1 p
  obtain ⟨x5, x6⟩ := u2 a ha n
  obtain ⟨x7, x8⟩ := u2 b hb n
  obtain ⟨y3, y4⟩ := z2 n
  obtain ⟨x9, x10⟩ := u3 m
  rw [quotR_eq ha hab hcd (.inl p)]
  have b1 : boxesP a b c d = [(a, b, max c 1, d), (a, b, c, min d (-2))] := by
    unfold boxesP
    rw [el]
    rw [if_pos p, if_pos n, if_neg (by omega)]
    rfl
  by_cases hu : a ≤ -9223372036854775808 ∧ -9223372036854775808 ≤ b
  · simp [hu, t67x1, T.den, B.den, A.den, E.den, Cm.den, g32, g91, ct, b1, c4, minL, maxL, ite_one, mn_eq, mx_eq, min_self', max_self', wrap64, p, n, m, m', x1, x2, x3, x4, y1, y2, meetP hd hcd p, x5, x6, x7, x8, y3, y4, meetN hc hcd n, x9, x10, meetM hb hab m, -Int.tdiv_neg, -Int.neg_tdiv, -Int.reduceTDiv]
  · simp [hu, t67x1, T.den, B.den, A.den, E.den, Cm.den, g32, g91, ct, b1, c4, minL, maxL, ite_one, mn_eq, mx_eq, min_self', max_self', wrap64, p, n, m, m', x1, x2, x3, x4, y1, y2, meetP hd hcd p, x5, x6, x7, x8, y3, y4, meetN hc hcd n, x9, x10, meetM hb hab m, -Int.tdiv_neg, -Int.neg_tdiv, -Int.reduceTDiv]
theorem d67x1_1101 {F : Nat → List Int → Option (List Int)} {a b c d : Int} (g32 : F 32 = meet3S) (g91 : F 91 = containsS) (hr : in4 a b c d) (hab : a ≤ b) (hcd : c ≤ d) (p : 1 ≤ d) (n : c ≤ -2) (m : ¬ -9223372036854775808 < b) (m' : (c ≤ -1 ∧ -1 ≤ d)) : t67x1.den F 0 [1, a, b, c, d] = some (0, quotR 1 a b c d) := by
  obtain ⟨ha, hb, hc, hd⟩ := hr
  have ct : ∀ x y n, containsS [x, y, n] = some [if x ≤ n ∧ n ≤ y then 1 else 0] := fun _ _ _ => rfl
  have u1 : ∀ v, inI v → 1 ≤ d → w64 (v.tdiv (max c 1)) = v.tdiv (max c 1) ∧ w64 (v.tdiv d) = v.tdiv d := fun v hv h => ⟨wq hv (by omega) (by omega), wq hv (by omega) (by omega)⟩
  have u2 : ∀ v, inI v → c ≤ -2 → w64 (v.tdiv c) = v.tdiv c ∧ w64 (v.tdiv (min d (-2))) = v.tdiv (min d (-2)) := fun v hv h => ⟨wq hv (by omega) (by omega), wq hv (by omega) (by omega)⟩
  have u3 : -9223372036854775808 < b → w64 ((max a (-9223372036854775807)).tdiv (-1)) = (max a (-9223372036854775807)).tdiv (-1) ∧ w64 (b.tdiv (-1)) = b.tdiv (-1) := fun h => ⟨wq (by unfold inI at *; omega) (by omega) (by omega), wq hb (by omega) (by omega)⟩
  have z1 : 1 ≤ d → ¬ max c 1 = 0 ∧ ¬ d = 0 := fun h => by omega
  have z2 : c ≤ -2 → ¬ c = 0 ∧ ¬ min d (-2) = 0 := fun h => by omega
  have el : (LST : Int) + 1 = -9223372036854775807 := by decide
  obtain ⟨x1, x2⟩ := u1 a ha p
  obtain ⟨x3, x4⟩ := u1 b hb p
  obtain ⟨y1, y2⟩ := z1 p
  obtain ⟨x5, x6⟩ := u2 a ha n
  obtain ⟨x7, x8⟩ := u2 b hb n
  obtain ⟨y3, y4⟩ := z2 n
  rw [quotR_eq ha hab hcd (.inl p)]
  have b1 : boxesP a b c d = [(a, b, max c 1, d), (a, b, c, min d (-2))] := by
    unfold boxesP
    rw [el]
    rw [if_pos p, if_pos n, if_neg (by omega)]
    rfl
  by_cases hu : a ≤ -9223372036854775808 ∧ -9223372036854775808 ≤ b
  · simp [hu, t67x1, T.den, B.den, A.den, E.den, Cm.den, g32, g91, ct, b1, c4, minL, maxL, ite_one, mn_eq, mx_eq, min_self', max_self', wrap64, p, n, m, m', x1, x2, x3, x4, y1, y2, meetP hd hcd p, x5, x6, x7, x8, y3, y4, meetN hc hcd n, meetM0 m, -Int.tdiv_neg, -Int.neg_tdiv, -Int.reduceTDiv]
  · simp [hu, t67x1, T.den, B.den, A.den, E.den, Cm.den, g32, g91, ct, b1, c4, minL, maxL, ite_one, mn_eq, mx_eq, min_self', max_self', wrap64, p, n, m, m', x1, x2, x3, x4, y1, y2, meetP hd hcd p, x5, x6, x7, x8, y3, y4, meetN hc hcd n, meetM0 m, -Int.tdiv_neg, -Int.neg_tdiv, -Int.reduceTDiv]
theorem d67x1_1100 {F : Nat → List Int → Option (List Int)} {a b c d : Int} (g32 : F 32 = meet3S) (g91 : F 91 = containsS) (hr : in4 a b c d) (hab : a ≤ b) (hcd : c ≤ d) (p : 1 ≤ d) (n : c ≤ -2) (m : ¬ -9223372036854775808 < b) (m' : ¬ (c ≤ -1 ∧ -1 ≤ d)) : t67x1.den F 0 [1, a, b, c, d] = some (0, quotR 1 a b c d) := by
  obtain ⟨ha, hb, hc, hd⟩ := hr
  have ct : ∀ x y n, containsS [x, y, n] = some [if x ≤ n ∧ n ≤ y then 1 else 0] := fun _ _ _ => rfl
  have u1 : ∀ v, inI v → 1 ≤ d → w64 (v.tdiv (max c 1)) = v.tdiv (max c 1) ∧ w64 (v.tdiv d) = v.tdiv d := fun v hv h => ⟨wq hv (by omega) (by omega), wq hv (by omega) (by omega)⟩
  have u2 : ∀ v, inI v → c ≤ -2 → w64 (v.tdiv c) = v.tdiv c ∧ w64 (v.tdiv (min d (-2))) = v.tdiv (min d (-2)) := fun v hv h => ⟨wq hv (by omega) (by omega), wq hv (by omega) (by omega)⟩
  have u3 : -9223372036854775808 < b → w64 ((max a (-9223372036854775807)).tdiv (-1)) = (max a (-9223372036854775807)).tdiv (-1) ∧ w64 (b.tdiv (-1)) = b.tdiv (-1) := fun h => ⟨wq (by unfold inI at *; omega) (by omega) (by omega), wq hb (by omega) (by omega)⟩
  have z1 : 1 ≤ d → ¬ max c 1 = 0 ∧ ¬ d = 0 := fun h => by omega
  have z2 : c ≤ -2 → ¬ c = 0 ∧ ¬ min d (-2) = 0 := fun h => by omega
  have el : (LST : Int) + 1 = -9223372036854775807 := by decide
  obtain ⟨x1, x2⟩ := u1 a ha p
  obtain ⟨x3, x4⟩ := u1 b hb p
  obtain ⟨y1, y2⟩ := z1 p
  obtain ⟨x5, x6⟩ := u2 a ha n
  obtain ⟨x7, x8⟩ := u2 b hb n
  obtain ⟨y3, y4⟩ := z2 n
  rw [quotR_eq ha hab hcd (.inl p)]
  have b1 : boxesP a b c d = [(a, b, max c 1, d), (a, b, c, min d (-2))] := by
    unfold boxesP
    rw [el]
    rw [if_pos p, if_pos n, if_neg (by omega)]
    rfl
  by_cases hu : a ≤ -9223372036854775808 ∧ -9223372036854775808 ≤ b
  · simp [hu, t67x1, T.den, B.den, A.den, E.den, Cm.den, g32, g91, ct, b1, c4, minL, maxL, ite_one, mn_eq, mx_eq, min_self', max_self', wrap64, p, n, m, m', x1, x2, x3, x4, y1, y2, meetP hd hcd p, x5, x6, x7, x8, y3, y4, meetN hc hcd n, meetM0 m, -Int.tdiv_neg, -Int.neg_tdiv, -Int.reduceTDiv]
  · simp [hu, t67x1, T.den, B.den, A.den, E.den, Cm.den, g32, g91, ct, b1, c4, minL, maxL, ite_one, mn_eq, mx_eq, min_self', max_self', wrap64, p, n, m, m', x1, x2, x3, x4, y1, y2, meetP hd hcd p, x5, x6, x7, x8, y3, y4, meetN hc hcd n, meetM0 m, -Int.tdiv_neg, -Int.neg_tdiv, -Int.reduceTDiv]
theorem d67x1_1011 {F : Nat → List Int → Option (List Int)} {a b c d : Int} (g32 : F 32 = meet3S) (g91 : F 91 = containsS) (hr : in4 a b c d) (hab : a ≤ b) (hcd : c ≤ d) (p : 1 ≤ d) (n : ¬ c ≤ -2) (m : -9223372036854775808 < b) (m' : (c ≤ -1 ∧ -1 ≤ d)) : t67x1.den F 0 [1, a, b, c, d] = some (0, quotR 1 a b c d) := by
  obtain ⟨ha, hb, hc, hd⟩ := hr
  have ct : ∀ x y n, containsS [x, y, n] = some [if x ≤ n ∧ n ≤ y then 1 else 0] := fun _ _ _ => rfl
  have u1 : ∀ v, inI v → 1 ≤ d → w64 (v.tdiv (max c 1)) = v.tdiv (max c 1) ∧ w64 (v.tdiv d) = v.tdiv d := fun v hv h => ⟨wq hv (by omega) (by omega), wq hv (by omega) (by omega)⟩
  have u2 : ∀ v, inI v → c ≤ -2 → w64 (v.tdiv c) = v.tdiv c ∧ w64 (v.tdiv (min d (-2))) = v.tdiv (min d (-2)) := fun v hv h => ⟨wq hv (by omega) (by omega), wq hv (by omega) (by omega)⟩
  have u3 : -9223372036854775808 < b → w64 ((max a (-9223372036854775807)).tdiv (-1)) = (max a (-9223372036854775807)).tdiv (-1) ∧ w64 (b.tdiv (-1)) = b.tdiv (-1) := fun h => ⟨wq (by unfold inI at *; omega) (by omega) (by omega), wq hb (by omega) (by omega)⟩
  have z1 : 1 ≤ d → ¬ max c 1 = 0 ∧ ¬ d = 0 := fun h => by omega
  have z2 : c ≤ -2 → ¬ c = 0 ∧ ¬ min d (-2) = 0 := fun h => by omega
  have el : (LST : Int) + 1 = -9223372036854775807 := by decide
  obtain ⟨x1, x2⟩ := u1 a ha p
  obtain ⟨x3, x4⟩ := u1 b hb p
  obtain ⟨y1, y2⟩ := z1 p
  obtain ⟨x9, x10⟩ := u3 m
  rw [quotR_eq ha hab hcd (.inl p)]
  have b1 : boxesP a b c d = [(a, b, max c 1, d), (max a (-9223372036854775807), b, -1, -1)] := by
    unfold boxesP
    rw [el]
    rw [if_pos p, if_neg n, if_pos (by omega)]
    rfl
  by_cases hu : a ≤ -9223372036854775808 ∧ -9223372036854775808 ≤ b
  · simp [hu, t67x1, T.den, B.den, A.den, E.den, Cm.den, g32, g91, ct, b1, c4, minL, maxL, ite_one, mn_eq, mx_eq, min_self', max_self', wrap64, p, n, m, m', x1, x2, x3, x4, y1, y2, meetP hd hcd p, meetN0 n, x9, x10, meetM hb hab m, -Int.tdiv_neg, -Int.neg_tdiv, -Int.reduceTDiv]
  · simp [hu, t67x1, T.den, B.den, A.den, E.den, Cm.den, g32, g91, ct, b1, c4, minL, maxL, ite_one, mn_eq, mx_eq, min_self', max_self', wrap64, p, n, m, m', x1, x2, x3, x4, y1, y2, meetP hd hcd p, meetN0 n, x9, x10, meetM hb hab m, -Int.tdiv_neg, -Int.neg_tdiv, -Int.reduceTDiv]
theorem d67x1_1010 {F : Nat → List Int → Option (List Int)} {a b c d : Int} (g32 : F 32 = meet3S) (g91 : F 91 = containsS) (hr : in4 a b c d) (hab : a ≤ b) (hcd : c ≤ d) (p : 1 ≤ d) (n : ¬ c ≤ -2) (m : -9223372036854775808 < b) (m' : ¬ (c ≤ -1 ∧ -1 ≤ d)) : t67x1.den F 0 [1, a, b, c, d] = some (0, quotR 1 a b c d) := by
  obtain ⟨ha, hb, hc, hd⟩ := hr
  have ct : ∀ x y n, containsS [x, y, n] = some [if x ≤ n ∧ n ≤ y then 1 else 0] := fun _ _ _ => rfl
  have u1 : ∀ v, inI v → 1 ≤ d → w64 (v.tdiv (max c 1)) = v.tdiv (max c 1) ∧ w64 (v.tdiv d) = v.tdiv d := fun v hv h => ⟨wq hv (by omega) (by omega), wq hv (by omega) (by omega)⟩
  have u2 : ∀ v, inI v → c ≤ -2 → w64 (v.tdiv c) = v.tdiv c ∧ w64 (v.tdiv (min d (-2))) = v.tdiv (min d (-2)) := fun v hv h => ⟨wq hv (by omega) (by omega), wq hv (by omega) (by omega)⟩
  have u3 : -9223372036854775808 < b → w64 ((max a (-9223372036854775807)).tdiv (-1)) = (max a (-9223372036854775807)).tdiv (-1) ∧ w64 (b.tdiv (-1)) = b.tdiv (-1) := fun h => ⟨wq (by unfold inI at *; omega) (by omega) (by omega), wq hb (by omega) (by omega)⟩
  have z1 : 1 ≤ d → ¬ max c 1 = 0 ∧ ¬ d = 0 := fun h => by omega
  have z2 : c ≤ -2 → ¬ c = 0 ∧ ¬ min d (-2) = 0 := fun h => by omega
  have el : (LST : Int) + 1 = -9223372036854775807 := by decide
  obtain ⟨x1, x2⟩ := u1 a ha p
  obtain ⟨x3, x4⟩ := u1 b hb p
  obtain ⟨y1, y2⟩ := z1 p
  obtain ⟨x9, x10⟩ := u3 m
  rw [quotR_eq ha hab hcd (.inl p)]
  have b1 : boxesP a b c d = [(a, b, max c 1, d)] := by
    unfold boxesP
    rw [el]
    rw [if_pos p, if_neg n, if_neg (by omega)]
    rfl
  by_cases hu : a ≤ -9223372036854775808 ∧ -9223372036854775808 ≤ b
  · simp [hu, t67x1, T.den, B.den, A.den, E.den, Cm.den, g32, g91, ct, b1, c4, minL, maxL, ite_one, mn_eq, mx_eq, min_self', max_self', wrap64, p, n, m, m', x1, x2, x3, x4, y1, y2, meetP hd hcd p, meetN0 n, x9, x10, meetM hb hab m, -Int.tdiv_neg, -Int.neg_tdiv, -Int.reduceTDiv]
  · simp [hu, t67x1, T.den, B.den, A.den, E.den, Cm.den, g32, g91, ct, b1, c4, minL, maxL, ite_one, mn_eq, mx_eq, min_self', max_self', wrap64, p, n, m, m', x1, x2, x3, x4, y1, y2, meetP hd hcd p, meetN0 n, x9, x10, meetM hb hab m, -Int.tdiv_neg, -Int.neg_tdiv, -Int.reduceTDiv]
theorem d67x1_1001 {F : Nat → List Int → Option (List Int)} {a b c d : Int} (g32 : F 32 = meet3S) (g91 : F 91 = containsS) (hr : in4 a b c d) (hab : a ≤ b) (hcd : c ≤ d) (p : 1 ≤ d) (n : ¬ c ≤ -2) (m : ¬ -9223372036854775808 < b) (m' : (c ≤ -1 ∧ -1 ≤ d)) : t67x1.den F 0 [1, a, b, c, d] = some (0, quotR 1 a b c d) := by
  obtain ⟨ha, hb, hc, hd⟩ := hr
  have ct : ∀ x y n, containsS [x, y, n] = some [if x ≤ n ∧ n ≤ y then 1 else 0] := fun _ _ _ => rfl
  have u1 : ∀ v, inI v → 1 ≤ d → w64 (v.tdiv (max c 1)) = v.tdiv (max c 1) ∧ w64 (v.tdiv d) = v.tdiv d := fun v hv h => ⟨wq hv (by omega) (by omega), wq hv (by omega) (by omega)⟩
  have u2 : ∀ v, inI v → c ≤ -2 → w64 (v.tdiv c) = v.tdiv c ∧ w64 (v.tdiv (min d (-2))) = v.tdiv (min d (-2)) := fun v hv h => ⟨wq hv (by omega) (by omega), wq hv (by omega) (by omega)⟩
  have u3 : -9223372036854775808 < b → w64 ((max a (-9223372036854775807)).tdiv (-1)) = (max a (-9223372036854775807)).tdiv (-1) ∧ w64 (b.tdiv (-1)) = b.tdiv (-1) := fun h => ⟨wq (by unfold inI at *; omega) (by omega) (by omega), wq hb (by omega) (by omega)⟩
  have z1 : 1 ≤ d → ¬ max c 1 = 0 ∧ ¬ d = 0 := fun h => by omega
  have z2 : c ≤ -2 → ¬ c = 0 ∧ ¬ min d (-2) = 0 := fun h => by omega
  have el : (LST : Int) + 1 = -9223372036854775807 := by decide
  obtain ⟨x1, x2⟩ := u1 a ha p
  obtain ⟨x3, x4⟩ := u1 b hb p
  obtain ⟨y1, y2⟩ := z1 p
  rw [quotR_eq ha hab hcd (.inl p)]
  have b1 : boxesP a b c d = [(a, b, max c 1, d)] := by
    unfold boxesP
    rw [el]
    rw [if_pos p, if_neg n, if_neg (by omega)]
    rfl
  by_cases hu : a ≤ -9223372036854775808 ∧ -9223372036854775808 ≤ b
  · simp [hu, t67x1, T.den, B.den, A.den, E.den, Cm.den, g32, g91, ct, b1, c4, minL, maxL, ite_one, mn_eq, mx_eq, min_self', max_self', wrap64, p, n, m, m', x1, x2, x3, x4, y1, y2, meetP hd hcd p, meetN0 n, meetM0 m, -Int.tdiv_neg, -Int.neg_tdiv, -Int.reduceTDiv]
  · simp [hu, t67x1, T.den, B.den, A.den, E.den, Cm.den, g32, g91, ct, b1, c4, minL, maxL, ite_one, mn_eq, mx_eq, min_self', max_self', wrap64, p, n, m, m', x1, x2, x3, x4, y1, y2, meetP hd hcd p, meetN0 n, meetM0 m, -Int.tdiv_neg, -Int.neg_tdiv, -Int.reduceTDiv]
theorem d67x1_1000 {F : Nat → List Int → Option (List Int)} {a b c d : Int} (g32 : F 32 = meet3S) (g91 : F 91 = containsS) (hr : in4 a b c d) (hab : a ≤ b) (hcd : c ≤ d) (p : 1 ≤ d) (n : ¬ c ≤ -2) (m : ¬ -9223372036854775808 < b) (m' : ¬ (c ≤ -1 ∧ -1 ≤ d)) : t67x1.den F 0 [1, a, b, c, d] = some (0, quotR 1 a b c d) := by
  obtain ⟨ha, hb, hc, hd⟩ := hr
  have ct : ∀ x y n, containsS [x, y, n] = some [if x ≤ n ∧ n ≤ y then 1 else 0] := fun _ _ _ => rfl
  have u1 : ∀ v, inI v → 1 ≤ d → w64 (v.tdiv (max c 1)) = v.tdiv (max c 1) ∧ w64 (v.tdiv d) = v.tdiv d := fun v hv h => ⟨wq hv (by omega) (by omega), wq hv (by omega) (by omega)⟩
  have u2 : ∀ v, inI v → c ≤ -2 → w64 (v.tdiv c) = v.tdiv c ∧ w64 (v.tdiv (min d (-2))) = v.tdiv (min d (-2)) := fun v hv h => ⟨wq hv (by omega) (by omega), wq hv (by omega) (by omega)⟩
  have u3 : -9223372036854775808 < b → w64 ((max a (-9223372036854775807)).tdiv (-1)) = (max a (-9223372036854775807)).tdiv (-1) ∧ w64 (b.tdiv (-1)) = b.tdiv (-1) := fun h => ⟨wq (by unfold inI at *; omega) (by omega) (by omega), wq hb (by omega) (by omega)⟩
  have z1 : 1 ≤ d → ¬ max c 1 = 0 ∧ ¬ d = 0 := fun h => by omega
  have z2 : c ≤ -2 → ¬ c = 0 ∧ ¬ min d (-2) = 0 := fun h => by omega
  have el : (LST : Int) + 1 = -9223372036854775807 := by decide
  obtain ⟨x1, x2⟩ := u1 a ha p
  obtain ⟨x3, x4⟩ := u1 b hb p
  obtain ⟨y1, y2⟩ := z1 p
  rw [quotR_eq ha hab hcd (.inl p)]
  have b1 : boxesP a b c d = [(a, b, max c 1, d)] := by
    unfold boxesP
    rw [el]
    rw [if_pos p, if_neg n, if_neg (by omega)]
    rfl
  by_cases hu : a ≤ -9223372036854775808 ∧ -9223372036854775808 ≤ b
  · simp [hu, t67x1, T.den, B.den, A.den, E.den, Cm.den, g32, g91, ct, b1, c4, minL, maxL, ite_one, mn_eq, mx_eq, min_self', max_self', wrap64, p, n, m, m', x1, x2, x3, x4, y1, y2, meetP hd hcd p, meetN0 n, meetM0 m, -Int.tdiv_neg, -Int.neg_tdiv, -Int.reduceTDiv]
  · simp [hu, t67x1, T.den, B.den, A.den, E.den, Cm.den, g32, g91, ct, b1, c4, minL, maxL, ite_one, mn_eq, mx_eq, min_self', max_self', wrap64, p, n, m, m', x1, x2, x3, x4, y1, y2, meetP hd hcd p, meetN0 n, meetM0 m, -Int.tdiv_neg, -Int.neg_tdiv, -Int.reduceTDiv]
theorem d67x1_0111 {F : Nat → List Int → Option (List Int)} {a b c d : Int} (g32 : F 32 = meet3S) (g91 : F 91 = containsS) (hr : in4 a b c d) (hab : a ≤ b) (hcd : c ≤ d) (p : ¬ 1 ≤ d) (n : c ≤ -2) (m : -9223372036854775808 < b) (m' : (c ≤ -1 ∧ -1 ≤ d)) : t67x1.den F 0 [1, a, b, c, d] = some (0, quotR 1 a b c d) := by
  obtain ⟨ha, hb, hc, hd⟩ := hr
  have ct : ∀ x y n, containsS [x, y, n] = some [if x ≤ n ∧ n ≤ y then 1 else 0] := fun _ _ _ => rfl
  have u1 : ∀ v, inI v → 1 ≤ d → w64 (v.tdiv (max c 1)) = v.tdiv (max c 1) ∧ w64 (v.tdiv d) = v.tdiv d := fun v hv h => ⟨wq hv (by omega) (by omega), wq hv (by omega) (by omega)⟩
  have u2 : ∀ v, inI v → c ≤ -2 → w64 (v.tdiv c) = v.tdiv c ∧ w64 (v.tdiv (min d (-2))) = v.tdiv (min d (-2)) := fun v hv h => ⟨wq hv (by omega) (by omega), wq hv (by omega) (by omega)⟩
  have u3 : -9223372036854775808 < b → w64 ((max a (-9223372036854775807)).tdiv (-1)) = (max a (-9223372036854775807)).tdiv (-1) ∧ w64 (b.tdiv (-1)) = b.tdiv (-1) := fun h => ⟨wq (by unfold inI at *; omega) (by omega) (by omega), wq hb (by omega) (by omega)⟩
  have z1 : 1 ≤ d → ¬ max c 1 = 0 ∧ ¬ d = 0 := fun h => by omega
  have z2 : c ≤ -2 → ¬ c = 0 ∧ ¬ min d (-2) = 0 := fun h => by omega
  have el : (LST : Int) + 1 = -9223372036854775807 := by decide
  obtain ⟨x5, x6⟩ := u2 a ha n
  obtain ⟨x7, x8⟩ := u2 b hb n
  obtain ⟨y3, y4⟩ := z2 n
  obtain ⟨x9, x10⟩ := u3 m
  rw [quotR_eq ha hab hcd (.inr (.inl n))]
  have b1 : boxesP a b c d = [(a, b, c, min d (-2)), (max a (-9223372036854775807), b, -1, -1)] := by
    unfold boxesP
    rw [el]
    rw [if_neg p, if_pos n, if_pos (by omega)]
    rfl
  by_cases hu : a ≤ -9223372036854775808 ∧ -9223372036854775808 ≤ b
  · simp [hu, t67x1, T.den, B.den, A.den, E.den, Cm.den, g32, g91, ct, b1, c4, minL, maxL, ite_one, mn_eq, mx_eq, min_self', max_self', wrap64, p, n, m, m', meetP0 p, x5, x6, x7, x8, y3, y4, meetN hc hcd n, x9, x10, meetM hb hab m, -Int.tdiv_neg, -Int.neg_tdiv, -Int.reduceTDiv]
  · simp [hu, t67x1, T.den, B.den, A.den, E.den, Cm.den, g32, g91, ct, b1, c4, minL, maxL, ite_one, mn_eq, mx_eq, min_self', max_self', wrap64, p, n, m, m', meetP0 p, x5, x6, x7, x8, y3, y4, meetN hc hcd n, x9, x10, meetM hb hab m, -Int.tdiv_neg, -Int.neg_tdiv, -Int.reduceTDiv]
theorem d67x1_0110 {F : Nat → List Int → Option (List Int)} {a b c d : Int} (g32 : F 32 = meet3S) (g91 : F 91 = containsS) (hr : in4 a b c d) (hab : a ≤ b) (hcd : c ≤ d) (p : ¬ 1 ≤ d) (n : c ≤ -2) (m : -9223372036854775808 < b) (m' : ¬ (c ≤ -1 ∧ -1 ≤ d)) : t67x1.den F 0 [1, a, b, c, d] = some (0, quotR 1 a b c d) := by
  obtain ⟨ha, hb, hc, hd⟩ := hr
  have ct : ∀ x y n, containsS [x, y, n] = some [if x ≤ n ∧ n ≤ y then 1 else 0] := fun _ _ _ => rfl
  have u1 : ∀ v, inI v → 1 ≤ d → w64 (v.tdiv (max c 1)) = v.tdiv (max c 1) ∧ w64 (v.tdiv d) = v.tdiv d := fun v hv h => ⟨wq hv (by omega) (by omega), wq hv (by omega) (by omega)⟩
  have u2 : ∀ v, inI v → c ≤ -2 → w64 (v.tdiv c) = v.tdiv c ∧ w64 (v.tdiv (min d (-2))) = v.tdiv (min d (-2)) := fun v hv h => ⟨wq hv (by omega) (by omega), wq hv (by omega) (by omega)⟩
  have u3 : -9223372036854775808 < b → w64 ((max a (-9223372036854775807)).tdiv (-1)) = (max a (-9223372036854775807)).tdiv (-1) ∧ w64 (b.tdiv (-1)) = b.tdiv (-1) := fun h => ⟨wq (by unfold inI at *; omega) (by omega) (by omega), wq hb (by omega) (by omega)⟩
  have z1 : 1 ≤ d → ¬ max c 1 = 0 ∧ ¬ d = 0 := fun h => by omega
  have z2 : c ≤ -2 → ¬ c = 0 ∧ ¬ min d (-2) = 0 := fun h => by omega
  have el : (LST : Int) + 1 = -9223372036854775807 := by decide
  obtain ⟨x5, x6⟩ := u2 a ha n
  obtain ⟨x7, x8⟩ := u2 b hb n
  obtain ⟨y3, y4⟩ := z2 n
  obtain ⟨x9, x10⟩ := u3 m
  rw [quotR_eq ha hab hcd (.inr (.inl n))]
  have b1 : boxesP a b c d = [(a, b, c, min d (-2))] := by
    unfold boxesP
    rw [el]
    rw [if_neg p, if_pos n, if_neg (by omega)]
    rfl
  by_cases hu : a ≤ -9223372036854775808 ∧ -9223372036854775808 ≤ b
  · simp [hu, t67x1, T.den, B.den, A.den, E.den, Cm.den, g32, g91, ct, b1, c4, minL, maxL, ite_one, mn_eq, mx_eq, min_self', max_self', wrap64, p, n, m, m', meetP0 p, x5, x6, x7, x8, y3, y4, meetN hc hcd n, x9, x10, meetM hb hab m, -Int.tdiv_neg, -Int.neg_tdiv, -Int.reduceTDiv]
  · simp [hu, t67x1, T.den, B.den, A.den, E.den, Cm.den, g32, g91, ct, b1, c4, minL, maxL, ite_one, mn_eq, mx_eq, min_self', max_self', wrap64, p, n, m, m', meetP0 p, x5, x6, x7, x8, y3, y4, meetN hc hcd n, x9, x10, meetM hb hab m, -Int.tdiv_neg, -Int.neg_tdiv, -Int.reduceTDiv]
theorem d67x1_0101 {F : Nat → List Int → Option (List Int)} {a b c d : Int} (g32 : F 32 = meet3S) (g91 : F 91 = containsS) (hr : in4 a b c d) (hab : a ≤ b) (hcd : c ≤ d) (p : ¬ 1 ≤ d) (n : c ≤ -2) (m : ¬ -9223372036854775808 < b) (m' : (c ≤ -1 ∧ -1 ≤ d)) : t67x1.den F 0 [1, a, b, c, d] = some (0, quotR 1 a b c d) := by
  obtain ⟨ha, hb, hc, hd⟩ := hr
  have ct : ∀ x y n, containsS [x, y, n] = some [if x ≤ n ∧ n ≤ y then 1 else 0] := fun _ _ _ => rfl
  have u1 : ∀ v, inI v → 1 ≤ d → w64 (v.tdiv (max c 1)) = v.tdiv (max c 1) ∧ w64 (v.tdiv d) = v.tdiv d := fun v hv h => ⟨wq hv (by omega) (by omega), wq hv (by omega) (by omega)⟩
  have u2 : ∀ v, inI v → c ≤ -2 → w64 (v.tdiv c) = v.tdiv c ∧ w64 (v.tdiv (min d (-2))) = v.tdiv (min d (-2)) := fun v hv h => ⟨wq hv (by omega) (by omega), wq hv (by omega) (by omega)⟩
  have u3 : -9223372036854775808 < b → w64 ((max a (-9223372036854775807)).tdiv (-1)) = (max a (-9223372036854775807)).tdiv (-1) ∧ w64 (b.tdiv (-1)) = b.tdiv (-1) := fun h => ⟨wq (by unfold inI at *; omega) (by omega) (by omega), wq hb (by omega) (by omega)⟩
  have z1 : 1 ≤ d → ¬ max c 1 = 0 ∧ ¬ d = 0 := fun h => by omega
  have z2 : c ≤ -2 → ¬ c = 0 ∧ ¬ min d (-2) = 0 := fun h => by omega
  have el : (LST : Int) + 1 = -9223372036854775807 := by decide
  obtain ⟨x5, x6⟩ := u2 a ha n
  obtain ⟨x7, x8⟩ := u2 b hb n
  obtain ⟨y3, y4⟩ := z2 n
  rw [quotR_eq ha hab hcd (.inr (.inl n))]
  have b1 : boxesP a b c d = [(a, b, c, min d (-2))] := by
    unfold boxesP
    rw [el]
    rw [if_neg p, if_pos n, if_neg (by omega)]
    rfl
  by_cases hu : a ≤ -9223372036854775808 ∧ -9223372036854775808 ≤ b
  · simp [hu, t67x1, T.den, B.den, A.den, E.den, Cm.den, g32, g91, ct, b1, c4, minL, maxL, ite_one, mn_eq, mx_eq, min_self', max_self', wrap64, p, n, m, m', meetP0 p, x5, x6, x7, x8, y3, y4, meetN hc hcd n, meetM0 m, -Int.tdiv_neg, -Int.neg_tdiv, -Int.reduceTDiv]
  · simp [hu, t67x1, T.den, B.den, A.den, E.den, Cm.den, g32, g91, ct, b1, c4, minL, maxL, ite_one, mn_eq, mx_eq, min_self', max_self', wrap64, p, n, m, m', meetP0 p, x5, x6, x7, x8, y3, y4, meetN hc hcd n, meetM0 m, -Int.tdiv_neg, -Int.neg_tdiv, -Int.reduceTDiv]
theorem d67x1_0100 {F : Nat → List Int → Option (List Int)} {a b c d : Int} (g32 : F 32 = meet3S) (g91 : F 91 = containsS) (hr : in4 a b c d) (hab : a ≤ b) (hcd : c ≤ d) (p : ¬ 1 ≤ d) (n : c ≤ -2) (m : ¬ -9223372036854775808 < b) (m' : ¬ (c ≤ -1 ∧ -1 ≤ d)) : t67x1.den F 0 [1, a, b, c, d] = some (0, quotR 1 a b c d) := by
  obtain ⟨ha, hb, hc, hd⟩ := hr
  have ct : ∀ x y n, containsS [x, y, n] = some [if x ≤ n ∧ n ≤ y then 1 else 0] := fun _ _ _ => rfl
  have u1 : ∀ v, inI v → 1 ≤ d → w64 (v.tdiv (max c 1)) = v.tdiv (max c 1) ∧ w64 (v.tdiv d) = v.tdiv d := fun v hv h => ⟨wq hv (by omega) (by omega), wq hv (by omega) (by omega)⟩
  have u2 : ∀ v, inI v → c ≤ -2 → w64 (v.tdiv c) = v.tdiv c ∧ w64 (v.tdiv (min d (-2))) = v.tdiv (min d (-2)) := fun v hv h => ⟨wq hv (by omega) (by omega), wq hv (by omega) (by omega)⟩
  have u3 : -9223372036854775808 < b → w64 ((max a (-9223372036854775807)).tdiv (-1)) = (max a (-9223372036854775807)).tdiv (-1) ∧ w64 (b.tdiv (-1)) = b.tdiv (-1) := fun h => ⟨wq (by unfold inI at *; omega) (by omega) (by omega), wq hb (by omega) (by omega)⟩
  have z1 : 1 ≤ d → ¬ max c 1 = 0 ∧ ¬ d = 0 := fun h => by omega
  have z2 : c ≤ -2 → ¬ c = 0 ∧ ¬ min d (-2) = 0 := fun h => by omega
  have el : (LST : Int) + 1 = -9223372036854775807 := by decide
  obtain ⟨x5, x6⟩ := u2 a ha n
  obtain ⟨x7, x8⟩ := u2 b hb n
  obtain ⟨y3, y4⟩ := z2 n
  rw [quotR_eq ha hab hcd (.inr (.inl n))]
  have b1 : boxesP a b c d = [(a, b, c, min d (-2))] := by
    unfold boxesP
    rw [el]
    rw [if_neg p, if_pos n, if_neg (by omega)]
    rfl
  by_cases hu : a ≤ -9223372036854775808 ∧ -9223372036854775808 ≤ b
  · simp [hu, t67x1, T.den, B.den, A.den, E.den, Cm.den, g32, g91, ct, b1, c4, minL, maxL, ite_one, mn_eq, mx_eq, min_self', max_self', wrap64, p, n, m, m', meetP0 p, x5, x6, x7, x8, y3, y4, meetN hc hcd n, meetM0 m, -Int.tdiv_neg, -Int.neg_tdiv, -Int.reduceTDiv]
  · simp [hu, t67x1, T.den, B.den, A.den, E.den, Cm.den, g32, g91, ct, b1, c4, minL, maxL, ite_one, mn_eq, mx_eq, min_self', max_self', wrap64, p, n, m, m', meetP0 p, x5, x6, x7, x8, y3, y4, meetN hc hcd n, meetM0 m, -Int.tdiv_neg, -Int.neg_tdiv, -Int.reduceTDiv]
theorem d67x1_0011 {F : Nat → List Int → Option (List Int)} {a b c d : Int} (g32 : F 32 = meet3S) (g91 : F 91 = containsS) (hr : in4 a b c d) (hab : a ≤ b) (hcd : c ≤ d) (p : ¬ 1 ≤ d) (n : ¬ c ≤ -2) (m : -9223372036854775808 < b) (m' : (c ≤ -1 ∧ -1 ≤ d)) : t67x1.den F 0 [1, a, b, c, d] = some (0, quotR 1 a b c d) := by
  obtain ⟨ha, hb, hc, hd⟩ := hr
  have ct : ∀ x y n, containsS [x, y, n] = some [if x ≤ n ∧ n ≤ y then 1 else 0] := fun _ _ _ => rfl
  have u1 : ∀ v, inI v → 1 ≤ d → w64 (v.tdiv (max c 1)) = v.tdiv (max c 1) ∧ w64 (v.tdiv d) = v.tdiv d := fun v hv h => ⟨wq hv (by omega) (by omega), wq hv (by omega) (by omega)⟩
  have u2 : ∀ v, inI v → c ≤ -2 → w64 (v.tdiv c) = v.tdiv c ∧ w64 (v.tdiv (min d (-2))) = v.tdiv (min d (-2)) := fun v hv h => ⟨wq hv (by omega) (by omega), wq hv (by omega) (by omega)⟩
  have u3 : -9223372036854775808 < b → w64 ((max a (-9223372036854775807)).tdiv (-1)) = (max a (-9223372036854775807)).tdiv (-1) ∧ w64 (b.tdiv (-1)) = b.tdiv (-1) := fun h => ⟨wq (by unfold inI at *; omega) (by omega) (by omega), wq hb (by omega) (by omega)⟩
  have z1 : 1 ≤ d → ¬ max c 1 = 0 ∧ ¬ d = 0 := fun h => by omega
  have z2 : c ≤ -2 → ¬ c = 0 ∧ ¬ min d (-2) = 0 := fun h => by omega
  have el : (LST : Int) + 1 = -9223372036854775807 := by decide
  obtain ⟨x9, x10⟩ := u3 m
  rw [quotR_eq ha hab hcd ((.inr (.inr ⟨m, m'.1, m'.2⟩)))]
  have b1 : boxesP a b c d = [(max a (-9223372036854775807), b, -1, -1)] := by
    unfold boxesP
    rw [el]
    rw [if_neg p, if_neg n, if_pos (by omega)]
    rfl
  by_cases hu : a ≤ -9223372036854775808 ∧ -9223372036854775808 ≤ b
  · simp [hu, t67x1, T.den, B.den, A.den, E.den, Cm.den, g32, g91, ct, b1, c4, minL, maxL, ite_one, mn_eq, mx_eq, min_self', max_self', wrap64, p, n, m, m', meetP0 p, meetN0 n, x9, x10, meetM hb hab m, -Int.tdiv_neg, -Int.neg_tdiv, -Int.reduceTDiv]
  · simp [hu, t67x1, T.den, B.den, A.den, E.den, Cm.den, g32, g91, ct, b1, c4, minL, maxL, ite_one, mn_eq, mx_eq, min_self', max_self', wrap64, p, n, m, m', meetP0 p, meetN0 n, x9, x10, meetM hb hab m, -Int.tdiv_neg, -Int.neg_tdiv, -Int.reduceTDiv]
theorem d67x1_0010 {F : Nat → List Int → Option (List Int)} {a b c d : Int} (g32 : F 32 = meet3S) (g91 : F 91 = containsS) (hr : in4 a b c d) (hab : a ≤ b) (hcd : c ≤ d) (p : ¬ 1 ≤ d) (n : ¬ c ≤ -2) (m : -9223372036854775808 < b) (m' : ¬ (c ≤ -1 ∧ -1 ≤ d)) : t67x1.den F 0 [1, a, b, c, d] = some (0, quotR 1 a b c d) := by
  obtain ⟨ha, hb, hc, hd⟩ := hr
  have ct : ∀ x y n, containsS [x, y, n] = some [if x ≤ n ∧ n ≤ y then 1 else 0] := fun _ _ _ => rfl
  have u1 : ∀ v, inI v → 1 ≤ d → w64 (v.tdiv (max c 1)) = v.tdiv (max c 1) ∧ w64 (v.tdiv d) = v.tdiv d := fun v hv h => ⟨wq hv (by omega) (by omega), wq hv (by omega) (by omega)⟩
  have u2 : ∀ v, inI v → c ≤ -2 → w64 (v.tdiv c) = v.tdiv c ∧ w64 (v.tdiv (min d (-2))) = v.tdiv (min d (-2)) := fun v hv h => ⟨wq hv (by omega) (by omega), wq hv (by omega) (by omega)⟩
  have u3 : -9223372036854775808 < b → w64 ((max a (-9223372036854775807)).tdiv (-1)) = (max a (-9223372036854775807)).tdiv (-1) ∧ w64 (b.tdiv (-1)) = b.tdiv (-1) := fun h => ⟨wq (by unfold inI at *; omega) (by omega) (by omega), wq hb (by omega) (by omega)⟩
  have z1 : 1 ≤ d → ¬ max c 1 = 0 ∧ ¬ d = 0 := fun h => by omega
  have z2 : c ≤ -2 → ¬ c = 0 ∧ ¬ min d (-2) = 0 := fun h => by omega
  have el : (LST : Int) + 1 = -9223372036854775807 := by decide
  obtain ⟨x9, x10⟩ := u3 m
  rw [quotR_eq0 ha hab hcd (by unfold someD; omega)]
  have b1 : boxesP a b c d = [] := by
    unfold boxesP
    rw [el]
    rw [if_neg p, if_neg n, if_neg (by omega)]
    rfl
  by_cases hu : a ≤ -9223372036854775808 ∧ -9223372036854775808 ≤ b
  · simp [hu, t67x1, T.den, B.den, A.den, E.den, Cm.den, g32, g91, ct, b1, c4, minL, maxL, ite_one, mn_eq, mx_eq, min_self', max_self', wrap64, p, n, m, m', meetP0 p, meetN0 n, x9, x10, meetM hb hab m, -Int.tdiv_neg, -Int.neg_tdiv, -Int.reduceTDiv]
  · simp [hu, t67x1, T.den, B.den, A.den, E.den, Cm.den, g32, g91, ct, b1, c4, minL, maxL, ite_one, mn_eq, mx_eq, min_self', max_self', wrap64, p, n, m, m', meetP0 p, meetN0 n, x9, x10, meetM hb hab m, -Int.tdiv_neg, -Int.neg_tdiv, -Int.reduceTDiv]
theorem d67x1_0001 {F : Nat → List Int → Option (List Int)} {a b c d : Int} (g32 : F 32 = meet3S) (g91 : F 91 = containsS) (hr : in4 a b c d) (hab : a ≤ b) (hcd : c ≤ d) (p : ¬ 1 ≤ d) (n : ¬ c ≤ -2) (m : ¬ -9223372036854775808 < b) (m' : (c ≤ -1 ∧ -1 ≤ d)) : t67x1.den F 0 [1, a, b, c, d] = some (0, quotR 1 a b c d) := by
  obtain ⟨ha, hb, hc, hd⟩ := hr
  have ct : ∀ x y n, containsS [x, y, n] = some [if x ≤ n ∧ n ≤ y then 1 else 0] := fun _ _ _ => rfl
  have u1 : ∀ v, inI v → 1 ≤ d → w64 (v.tdiv (max c 1)) = v.tdiv (max c 1) ∧ w64 (v.tdiv d) = v.tdiv d := fun v hv h => ⟨wq hv (by omega) (by omega), wq hv (by omega) (by omega)⟩
  have u2 : ∀ v, inI v → c ≤ -2 → w64 (v.tdiv c) = v.tdiv c ∧ w64 (v.tdiv (min d (-2))) = v.tdiv (min d (-2)) := fun v hv h => ⟨wq hv (by omega) (by omega), wq hv (by omega) (by omega)⟩
  have u3 : -9223372036854775808 < b → w64 ((max a (-9223372036854775807)).tdiv (-1)) = (max a (-9223372036854775807)).tdiv (-1) ∧ w64 (b.tdiv (-1)) = b.tdiv (-1) := fun h => ⟨wq (by unfold inI at *; omega) (by omega) (by omega), wq hb (by omega) (by omega)⟩
  have z1 : 1 ≤ d → ¬ max c 1 = 0 ∧ ¬ d = 0 := fun h => by omega
  have z2 : c ≤ -2 → ¬ c = 0 ∧ ¬ min d (-2) = 0 := fun h => by omega
  have el : (LST : Int) + 1 = -9223372036854775807 := by decide
  rw [quotR_eq0 ha hab hcd (by unfold someD; omega)]
  have b1 : boxesP a b c d = [] := by
    unfold boxesP
    rw [el]
    rw [if_neg p, if_neg n, if_neg (by omega)]
    rfl
  by_cases hu : a ≤ -9223372036854775808 ∧ -9223372036854775808 ≤ b
  · simp [hu, t67x1, T.den, B.den, A.den, E.den, Cm.den, g32, g91, ct, b1, c4, minL, maxL, ite_one, mn_eq, mx_eq, min_self', max_self', wrap64, p, n, m, m', meetP0 p, meetN0 n, meetM0 m, -Int.tdiv_neg, -Int.neg_tdiv, -Int.reduceTDiv]
  · simp [hu, t67x1, T.den, B.den, A.den, E.den, Cm.den, g32, g91, ct, b1, c4, minL, maxL, ite_one, mn_eq, mx_eq, min_self', max_self', wrap64, p, n, m, m', meetP0 p, meetN0 n, meetM0 m, -Int.tdiv_neg, -Int.neg_tdiv, -Int.reduceTDiv]
theorem d67x1_0000 {F : Nat → List Int → Option (List Int)} {a b c d : Int} (g32 : F 32 = meet3S) (g91 : F 91 = containsS) (hr : in4 a b c d) (hab : a ≤ b) (hcd : c ≤ d) (p : ¬ 1 ≤ d) (n : ¬ c ≤ -2) (m : ¬ -9223372036854775808 < b) (m' : ¬ (c ≤ -1 ∧ -1 ≤ d)) : t67x1.den F 0 [1, a, b, c, d] = some (0, quotR 1 a b c d) := by
  obtain ⟨ha, hb, hc, hd⟩ := hr
  have ct : ∀ x y n, containsS [x, y, n] = some [if x ≤ n ∧ n ≤ y then 1 else 0] := fun _ _ _ => rfl
  have u1 : ∀ v, inI v → 1 ≤ d → w64 (v.tdiv (max c 1)) = v.tdiv (max c 1) ∧ w64 (v.tdiv d) = v.tdiv d := fun v hv h => ⟨wq hv (by omega) (by omega), wq hv (by omega) (by omega)⟩
  have u2 : ∀ v, inI v → c ≤ -2 → w64 (v.tdiv c) = v.tdiv c ∧ w64 (v.tdiv (min d (-2))) = v.tdiv (min d (-2)) := fun v hv h => ⟨wq hv (by omega) (by omega), wq hv (by omega) (by omega)⟩
  have u3 : -9223372036854775808 < b → w64 ((max a (-9223372036854775807)).tdiv (-1)) = (max a (-9223372036854775807)).tdiv (-1) ∧ w64 (b.tdiv (-1)) = b.tdiv (-1) := fun h => ⟨wq (by unfold inI at *; omega) (by omega) (by omega), wq hb (by omega) (by omega)⟩
  have z1 : 1 ≤ d → ¬ max c 1 = 0 ∧ ¬ d = 0 := fun h => by omega
  have z2 : c ≤ -2 → ¬ c = 0 ∧ ¬ min d (-2) = 0 := fun h => by omega
  have el : (LST : Int) + 1 = -9223372036854775807 := by decide
  rw [quotR_eq0 ha hab hcd (by unfold someD; omega)]
  have b1 : boxesP a b c d = [] := by
    unfold boxesP
    rw [el]
    rw [if_neg p, if_neg n, if_neg (by omega)]
    rfl
  by_cases hu : a ≤ -9223372036854775808 ∧ -9223372036854775808 ≤ b
  · simp [hu, t67x1, T.den, B.den, A.den, E.den, Cm.den, g32, g91, ct, b1, c4, minL, maxL, ite_one, mn_eq, mx_eq, min_self', max_self', wrap64, p, n, m, m', meetP0 p, meetN0 n, meetM0 m, -Int.tdiv_neg, -Int.neg_tdiv, -Int.reduceTDiv]
  · simp [hu, t67x1, T.den, B.den, A.den, E.den, Cm.den, g32, g91, ct, b1, c4, minL, maxL, ite_one, mn_eq, mx_eq, min_self', max_self', wrap64, p, n, m, m', meetP0 p, meetN0 n, meetM0 m, -Int.tdiv_neg, -Int.neg_tdiv, -Int.reduceTDiv]
theorem d67x1 {F : Nat → List Int → Option (List Int)} {a b c d : Int} (g32 : F 32 = meet3S) (g91 : F 91 = containsS) (hr : in4 a b c d) (hab : a ≤ b) (hcd : c ≤ d) : t67x1.den F 0 [1, a, b, c, d] = some (0, quotR 1 a b c d) := by
  by_cases p : 1 ≤ d <;> by_cases n : c ≤ -2 <;> by_cases m : -9223372036854775808 < b <;> by_cases m' : c ≤ -1 ∧ -1 ≤ d
  · exact d67x1_1111 g32 g91 hr hab hcd p n m m'
  · exact d67x1_1110 g32 g91 hr hab hcd p n m m'
  · exact d67x1_1101 g32 g91 hr hab hcd p n m m'
  · exact d67x1_1100 g32 g91 hr hab hcd p n m m'
  · exact d67x1_1011 g32 g91 hr hab hcd p n m m'
  · exact d67x1_1010 g32 g91 hr hab hcd p n m m'
  · exact d67x1_1001 g32 g91 hr hab hcd p n m m'
  · exact d67x1_1000 g32 g91 hr hab hcd p n m m'
  · exact d67x1_0111 g32 g91 hr hab hcd p n m m'
  · exact d67x1_0110 g32 g91 hr hab hcd p n m m'
  · exact d67x1_0101 g32 g91 hr hab hcd p n m m'
  · exact d67x1_0100 g32 g91 hr hab hcd p n m m'
  · exact d67x1_0011 g32 g91 hr hab hcd p n m m'
  · exact d67x1_0010 g32 g91 hr hab hcd p n m m'
  · exact d67x1_0001 g32 g91 hr hab hcd p n m m'
  · exact d67x1_0000 g32 g91 hr hab hcd p n m m'
theorem d67x2_1111 {F : Nat → List Int → Option (List Int)} {a b c d : Int} (g32 : F 32 = meet3S) (g91 : F 91 = containsS) (hr : in4 a b c d) (hab : a ≤ b) (hcd : c ≤ d) (p : 1 ≤ d) (n : c ≤ -2) (m : -9223372036854775808 < b) (m' : (c ≤ -1 ∧ -1 ≤ d)) : t67x2.den F 0 [2, a, b, c, d] = some (0, quotR 2 a b c d) := by
  obtain ⟨ha, hb, hc, hd⟩ := hr
  have ct : ∀ x y n, containsS [x, y, n] = some [if x ≤ n ∧ n ≤ y then 1 else 0] := fun _ _ _ => rfl
  have u1 : ∀ v, inI v → 1 ≤ d → w64 (v.tdiv (max c 1)) = v.tdiv (max c 1) ∧ w64 (v.tdiv d) = v.tdiv d := fun v hv h => ⟨wq hv (by omega) (by omega), wq hv (by omega) (by omega)⟩
  have u2 : ∀ v, inI v → c ≤ -2 → w64 (v.tdiv c) = v.tdiv c ∧ w64 (v.tdiv (min d (-2))) = v.tdiv (min d (-2)) := fun v hv h => ⟨wq hv (by omega) (by omega), wq hv (by omega) (by omega)⟩
  have u3 : -9223372036854775808 < b → w64 ((max a (-9223372036854775807)).tdiv (-1)) = (max a (-9223372036854775807)).tdiv (-1) ∧ w64 (b.tdiv (-1)) = b.tdiv (-1) := fun h => ⟨wq (by unfold inI at *; omega) (by omega) (by omega), wq hb (by omega) (by omega)⟩
  have z1 : 1 ≤ d → ¬ max c 1 = 0 ∧ ¬ d = 0 := fun h => by omega
  have z2 : c ≤ -2 → ¬ c = 0 ∧ ¬ min d (-2) = 0 := fun h => by omega
  have el : (LST : Int) + 1 = -9223372036854775807 := by decide
  obtain ⟨x1, x2⟩ := u1 a ha p
  obtain ⟨x3, x4⟩ := u1 b hb p
  obtain ⟨y1, y2⟩ := z1 p
  obtain ⟨x5, x6⟩ := u2 a ha n
  obtain ⟨x7, x8⟩ := u2 b hb n
  obtain ⟨y3, y4⟩ := z2 n
  obtain ⟨x9, x10⟩ := u3 m
  rw [quotR_eq ha hab hcd (.inl p)]
  have b1 : boxesP a b c d = [(a, b, max c 1, d), (a, b, c, min d (-2)), (max a (-9223372036854775807), b, -1, -1)] := by
    unfold boxesP
    rw [el]
    rw [if_pos p, if_pos n, if_pos (by omega)]
    rfl
  simp [t67x2, T.den, B.den, A.den, E.den, Cm.den, g32, g91, ct, b1, c4, minL, maxL, ite_one, mn_eq, mx_eq, min_self', max_self', wrap64, p, n, m, m', x1, x2, x3, x4, y1, y2, meetP hd hcd p, x5, x6, x7, x8, y3, y4, meetN hc hcd n, x9, x10, meetM hb hab m, -Int.tdiv_neg, -Int.neg_tdiv, -Int.reduceTDiv]
theorem d67x2_1110 {F : Nat → List Int → Option (List Int)} {a b c d : Int} (g32 : F 32 = meet3S) (g91 : F 91 = containsS) (hr : in4 a b c d) (hab : a ≤ b) (hcd : c ≤ d) (p : 1 ≤ d) (n : c ≤ -2) (m : -9223372036854775808 < b) (m' : ¬ (c ≤ -1 ∧ -1 ≤ d)) : t67x2.den F 0 [2, a, b, c, d] = some (0, quotR 2 a b c d) := by
  obtain ⟨ha, hb, hc, hd⟩ := hr
  have ct : ∀ x y n, containsS [x, y, n] = some [if x ≤ n ∧ n ≤ y then 1 else 0] := fun _ _ _ => rfl
  have u1 : ∀ v, inI v → 1 ≤ d → w64 (v.tdiv (max c 1)) = v.tdiv (max c 1) ∧ w64 (v.tdiv d) = v.tdiv d := fun v hv h => ⟨wq hv (by omega) (by omega), wq hv (by omega) (by omega)⟩
  have u2 : ∀ v, inI v → c ≤ -2 → w64 (v.tdiv c) = v.tdiv c ∧ w64 (v.tdiv (min d (-2))) = v.tdiv (min d (-2)) := fun v hv h => ⟨wq hv (by omega) (by omega), wq hv (by omega) (by omega)⟩
  have u3 : -9223372036854775808 < b → w64 ((max a (-9223372036854775807)).tdiv (-1)) = (max a (-9223372036854775807)).tdiv (-1) ∧ w64 (b.tdiv (-1)) = b.tdiv (-1) := fun h => ⟨wq (by unfold inI at *; omega) (by omega) (by omega), wq hb (by omega) (by omega)⟩
  have z1 : 1 ≤ d → ¬ max c 1 = 0 ∧ ¬ d = 0 := fun h => by omega
  have z2 : c ≤ -2 → ¬ c = 0 ∧ ¬ min d (-2) = 0 := fun h => by omega
  have el : (LST : Int) + 1 = -9223372036854775807 := by decide
  obtain ⟨x1, x2⟩ := u1 a ha p
  obtain ⟨x3, x4⟩ := u1 b hb p
  obtain ⟨y1, y2⟩ := z1 p
  obtain ⟨x5, x6⟩ := u2 a ha n
  obtain ⟨x7, x8⟩ := u2 b hb n
  obtain ⟨y3, y4⟩ := z2 n
  obtain ⟨x9, x10⟩ := u3 m
  rw [quotR_eq ha hab hcd (.inl p)]
  have b1 : boxesP a b c d = [(a, b, max c 1, d), (a, b, c, min d (-2))] := by
    unfold boxesP
    rw [el]
    rw [if_pos p, if_pos n, if_neg (by omega)]
    rfl
  simp [t67x2, T.den, B.den, A.den, E.den, Cm.den, g32, g91, ct, b1, c4, minL, maxL, ite_one, mn_eq, mx_eq, min_self', max_self', wrap64, p, n, m, m', x1, x2, x3, x4, y1, y2, meetP hd hcd p, x5, x6, x7, x8, y3, y4, meetN hc hcd n, x9, x10, meetM hb hab m, -Int.tdiv_neg, -Int.neg_tdiv, -Int.reduceTDiv]
theorem d67x2_1101 {F : Nat → List Int → Option (List Int)} {a b c d : Int} (g32 : F 32 = meet3S) (g91 : F 91 = containsS) (hr : in4 a b c d) (hab : a ≤ b) (hcd : c ≤ d) (p : 1 ≤ d) (n : c ≤ -2) (m : ¬ -9223372036854775808 < b) (m' : (c ≤ -1 ∧ -1 ≤ d)) : t67x2.den F 0 [2, a, b, c, d] = some (0, quotR 2 a b c d) := by
  obtain ⟨ha, hb, hc, hd⟩ := hr
  have ct : ∀ x y n, containsS [x, y, n] = some [if x ≤ n ∧ n ≤ y then 1 else 0] := fun _ _ _ => rfl
  have u1 : ∀ v, inI v → 1 ≤ d → w64 (v.tdiv (max c 1)) = v.tdiv (max c 1) ∧ w64 (v.tdiv d) = v.tdiv d := fun v hv h => ⟨wq hv (by omega) (by omega), wq hv (by omega) (by omega)⟩
  have u2 : ∀ v, inI v → c ≤ -2 → w64 (v.tdiv c) = v.tdiv c ∧ w64 (v.tdiv (min d (-2))) = v.tdiv (min d (-2)) := fun v hv h => ⟨wq hv (by omega) (by omega), wq hv (by omega) (by omega)⟩
  have u3 : -9223372036854775808 < b → w64 ((max a (-9223372036854775807)).tdiv (-1)) = (max a (-9223372036854775807)).tdiv (-1) ∧ w64 (b.tdiv (-1)) = b.tdiv (-1) := fun h => ⟨wq (by unfold inI at *; omega) (by omega) (by omega), wq hb (by omega) (by omega)⟩
  have z1 : 1 ≤ d → ¬ max c 1 = 0 ∧ ¬ d = 0 := fun h => by omega
  have z2 : c ≤ -2 → ¬ c = 0 ∧ ¬ min d (-2) = 0 := fun h => by omega
  have el : (LST : Int) + 1 = -9223372036854775807 := by decide
  obtain ⟨x1, x2⟩ := u1 a ha p
  obtain ⟨x3, x4⟩ := u1 b hb p
  obtain ⟨y1, y2⟩ := z1 p
  obtain ⟨x5, x6⟩ := u2 a ha n
  obtain ⟨x7, x8⟩ := u2 b hb n
  obtain ⟨y3, y4⟩ := z2 n
  rw [quotR_eq ha hab hcd (.inl p)]
  have b1 : boxesP a b c d = [(a, b, max c 1, d), (a, b, c, min d (-2))] := by
    unfold boxesP
    rw [el]
    rw [if_pos p, if_pos n, if_neg (by omega)]
    rfl
  simp [t67x2, T.den, B.den, A.den, E.den, Cm.den, g32, g91, ct, b1, c4, minL, maxL, ite_one, mn_eq, mx_eq, min_self', max_self', wrap64, p, n, m, m', x1, x2, x3, x4, y1, y2, meetP hd hcd p, x5, x6, x7, x8, y3, y4, meetN hc hcd n, meetM0 m, -Int.tdiv_neg, -Int.neg_tdiv, -Int.reduceTDiv]
theorem d67x2_1100 {F : Nat → List Int → Option (List Int)} {a b c d : Int} (g32 : F 32 = meet3S) (g91 : F 91 = containsS) (hr : in4 a b c d) (hab : a ≤ b) (hcd : c ≤ d) (p : 1 ≤ d) (n : c ≤ -2) (m : ¬ -9223372036854775808 < b) (m' : ¬ (c ≤ -1 ∧ -1 ≤ d)) : t67x2.den F 0 [2, a, b, c, d] = some (0, quotR 2 a b c d) := by
  obtain ⟨ha, hb, hc, hd⟩ := hr
  have ct : ∀ x y n, containsS [x, y, n] = some [if x ≤ n ∧ n ≤ y then 1 else 0] := fun _ _ _ => rfl
  have u1 : ∀ v, inI v → 1 ≤ d → w64 (v.tdiv (max c 1)) = v.tdiv (max c 1) ∧ w64 (v.tdiv d) = v.tdiv d := fun v hv h => ⟨wq hv (by omega) (by omega), wq hv (by omega) (by omega)⟩
  have u2 : ∀ v, inI v → c ≤ -2 → w64 (v.tdiv c) = v.tdiv c ∧ w64 (v.tdiv (min d (-2))) = v.tdiv (min d (-2)) := fun v hv h => ⟨wq hv (by omega) (by omega), wq hv (by omega) (by omega)⟩
  have u3 : -9223372036854775808 < b → w64 ((max a (-9223372036854775807)).tdiv (-1)) = (max a (-9223372036854775807)).tdiv (-1) ∧ w64 (b.tdiv (-1)) = b.tdiv (-1) := fun h => ⟨wq (by unfold inI at *; omega) (by omega) (by omega), wq hb (by omega) (by omega)⟩
  have z1 : 1 ≤ d → ¬ max c 1 = 0 ∧ ¬ d = 0 := fun h => by omega
  have z2 : c ≤ -2 → ¬ c = 0 ∧ ¬ min d (-2) = 0 := fun h => by omega
  have el : (LST : Int) + 1 = -9223372036854775807 := by decide
  obtain ⟨x1, x2⟩ := u1 a ha p
  obtain ⟨x3, x4⟩ := u1 b hb p
  obtain ⟨y1, y2⟩ := z1 p
  obtain ⟨x5, x6⟩ := u2 a ha n
  obtain ⟨x7, x8⟩ := u2 b hb n
  obtain ⟨y3, y4⟩ := z2 n
  rw [quotR_eq ha hab hcd (.inl p)]
  have b1 : boxesP a b c d = [(a, b, max c 1, d), (a, b, c, min d (-2))] := by
    unfold boxesP
    rw [el]
    rw [if_pos p, if_pos n, if_neg (by omega)]
    rfl
  simp [t67x2, T.den, B.den, A.den, E.den, Cm.den, g32, g91, ct, b1, c4, minL, maxL, ite_one, mn_eq, mx_eq, min_self', max_self', wrap64, p, n, m, m', x1, x2, x3, x4, y1, y2, meetP hd hcd p, x5, x6, x7, x8, y3, y4, meetN hc hcd n, meetM0 m, -Int.tdiv_neg, -Int.neg_tdiv, -Int.reduceTDiv]
theorem d67x2_1011 {F : Nat → List Int → Option (List Int)} {a b c d : Int} (g32 : F 32 = meet3S) (g91 : F 91 = containsS) (hr : in4 a b c d) (hab : a ≤ b) (hcd : c ≤ d) (p : 1 ≤ d) (n : ¬ c ≤ -2) (m : -9223372036854775808 < b) (m' : (c ≤ -1 ∧ -1 ≤ d)) : t67x2.den F 0 [2, a, b, c, d] = some (0, quotR 2 a b c d) := by
  obtain ⟨ha, hb, hc, hd⟩ := hr
  have ct : ∀ x y n, containsS [x, y, n] = some [if x ≤ n ∧ n ≤ y then 1 else 0] := fun _ _ _ => rfl
  have u1 : ∀ v, inI v → 1 ≤ d → w64 (v.tdiv (max c 1)) = v.tdiv (max c 1) ∧ w64 (v.tdiv d) = v.tdiv d := fun v hv h => ⟨wq hv (by omega) (by omega), wq hv (by omega) (by omega)⟩
  have u2 : ∀ v, inI v → c ≤ -2 → w64 (v.tdiv c) = v.tdiv c ∧ w64 (v.tdiv (min d (-2))) = v.tdiv (min d (-2)) := fun v hv h => ⟨wq hv (by omega) (by omega), wq hv (by omega) (by omega)⟩
  have u3 : -9223372036854775808 < b → w64 ((max a (-9223372036854775807)).tdiv (-1)) = (max a (-9223372036854775807)).tdiv (-1) ∧ w64 (b.tdiv (-1)) = b.tdiv (-1) := fun h => ⟨wq (by unfold inI at *; omega) (by omega) (by omega), wq hb (by omega) (by omega)⟩
  have z1 : 1 ≤ d → ¬ max c 1 = 0 ∧ ¬ d = 0 := fun h => by omega
  have z2 : c ≤ -2 → ¬ c = 0 ∧ ¬ min d (-2) = 0 := fun h => by omega
  have el : (LST : Int) + 1 = -9223372036854775807 := by decide
  obtain ⟨x1, x2⟩ := u1 a ha p
  obtain ⟨x3, x4⟩ := u1 b hb p
  obtain ⟨y1, y2⟩ := z1 p
  obtain ⟨x9, x10⟩ := u3 m
  rw [quotR_eq ha hab hcd (.inl p)]
  have b1 : boxesP a b c d = [(a, b, max c 1, d), (max a (-9223372036854775807), b, -1, -1)] := by
    unfold boxesP
    rw [el]
    rw [if_pos p, if_neg n, if_pos (by omega)]
    rfl
  simp [t67x2, T.den, B.den, A.den, E.den, Cm.den, g32, g91, ct, b1, c4, minL, maxL, ite_one, mn_eq, mx_eq, min_self', max_self', wrap64, p, n, m, m', x1, x2, x3, x4, y1, y2, meetP hd hcd p, meetN0 n, x9, x10, meetM hb hab m, -Int.tdiv_neg, -Int.neg_tdiv, -Int.reduceTDiv]
theorem d67x2_1010 {F : Nat → List Int → Option (List Int)} {a b c d : Int} (g32 : F 32 = meet3S) (g91 : F 91 = containsS) (hr : in4 a b c d) (hab : a ≤ b) (hcd : c ≤ d) (p : 1 ≤ d) (n : ¬ c ≤ -2) (m : -9223372036854775808 < b) (m' : ¬ (c ≤ -1 ∧ -1 ≤ d)) : t67x2.den F 0 [2, a, b, c, d] = some (0, quotR 2 a b c d) := by
  obtain ⟨ha, hb, hc, hd⟩ := hr
  have ct : ∀ x y n, containsS [x, y, n] = some [if x ≤ n ∧ n ≤ y then 1 else 0] := fun _ _ _ => rfl
  have u1 : ∀ v, inI v → 1 ≤ d → w64 (v.tdiv (max c 1)) = v.tdiv (max c 1) ∧ w64 (v.tdiv d) = v.tdiv d := fun v hv h => ⟨wq hv (by omega) (by omega), wq hv (by omega) (by omega)⟩
  have u2 : ∀ v, inI v → c ≤ -2 → w64 (v.tdiv c) = v.tdiv c ∧ w64 (v.tdiv (min d (-2))) = v.tdiv (min d (-2)) := fun v hv h => ⟨wq hv (by omega) (by omega), wq hv (by omega) (by omega)⟩
  have u3 : -9223372036854775808 < b → w64 ((max a (-9223372036854775807)).tdiv (-1)) = (max a (-9223372036854775807)).tdiv (-1) ∧ w64 (b.tdiv (-1)) = b.tdiv (-1) := fun h => ⟨wq (by unfold inI at *; omega) (by omega) (by omega), wq hb (by omega) (by omega)⟩
  have z1 : 1 ≤ d → ¬ max c 1 = 0 ∧ ¬ d = 0 := fun h => by omega
  have z2 : c ≤ -2 → ¬ c = 0 ∧ ¬ min d (-2) = 0 := fun h => by omega
  have el : (LST : Int) + 1 = -9223372036854775807 := by decide
  obtain ⟨x1, x2⟩ := u1 a ha p
  obtain ⟨x3, x4⟩ := u1 b hb p
  obtain ⟨y1, y2⟩ := z1 p
  obtain ⟨x9, x10⟩ := u3 m
  rw [quotR_eq ha hab hcd (.inl p)]
  have b1 : boxesP a b c d = [(a, b, max c 1, d)] := by
    unfold boxesP
    rw [el]
    rw [if_pos p, if_neg n, if_neg (by omega)]
    rfl
  simp [t67x2, T.den, B.den, A.den, E.den, Cm.den, g32, g91, ct, b1, c4, minL, maxL, ite_one, mn_eq, mx_eq, min_self', max_self', wrap64, p, n, m, m', x1, x2, x3, x4, y1, y2, meetP hd hcd p, meetN0 n, x9, x10, meetM hb hab m, -Int.tdiv_neg, -Int.neg_tdiv, -Int.reduceTDiv]
theorem d67x2_1001 {F : Nat → List Int → Option (List Int)} {a b c d : Int} (g32 : F 32 = meet3S) (g91 : F 91 = containsS) (hr : in4 a b c d) (hab : a ≤ b) (hcd : c ≤ d) (p : 1 ≤ d) (n : ¬ c ≤ -2) (m : ¬ -9223372036854775808 < b) (m' : (c ≤ -1 ∧ -1 ≤ d)) : t67x2.den F 0 [2, a, b, c, d] = some (0, quotR 2 a b c d) := by
  obtain ⟨ha, hb, hc, hd⟩ := hr
  have ct : ∀ x y n, containsS [x, y, n] = some [if x ≤ n ∧ n ≤ y then 1 else 0] := fun _ _ _ => rfl
  have u1 : ∀ v, inI v → 1 ≤ d → w64 (v.tdiv (max c 1)) = v.tdiv (max c 1) ∧ w64 (v.tdiv d) = v.tdiv d := fun v hv h => ⟨wq hv (by omega) (by omega), wq hv (by omega) (by omega)⟩
  have u2 : ∀ v, inI v → c ≤ -2 → w64 (v.tdiv c) = v.tdiv c ∧ w64 (v.tdiv (min d (-2))) = v.tdiv (min d (-2)) := fun v hv h => ⟨wq hv (by omega) (by omega), wq hv (by omega) (by omega)⟩
  have u3 : -9223372036854775808 < b → w64 ((max a (-9223372036854775807)).tdiv (-1)) = (max a (-9223372036854775807)).tdiv (-1) ∧ w64 (b.tdiv (-1)) = b.tdiv (-1) := fun h => ⟨wq (by unfold inI at *; omega) (by omega) (by omega), wq hb (by omega) (by omega)⟩
  have z1 : 1 ≤ d → ¬ max c 1 = 0 ∧ ¬ d = 0 := fun h => by omega
  have z2 : c ≤ -2 → ¬ c = 0 ∧ ¬ min d (-2) = 0 := fun h => by omega
  have el : (LST : Int) + 1 = -9223372036854775807 := by decide
  obtain ⟨x1, x2⟩ := u1 a ha p
  obtain ⟨x3, x4⟩ := u1 b hb p
  obtain ⟨y1, y2⟩ := z1 p
  rw [quotR_eq ha hab hcd (.inl p)]
  have b1 : boxesP a b c d = [(a, b, max c 1, d)] := by
    unfold boxesP
    rw [el]
    rw [if_pos p, if_neg n, if_neg (by omega)]
    rfl
  simp [t67x2, T.den, B.den, A.den, E.den, Cm.den, g32, g91, ct, b1, c4, minL, maxL, ite_one, mn_eq, mx_eq, min_self', max_self', wrap64, p, n, m, m', x1, x2, x3, x4, y1, y2, meetP hd hcd p, meetN0 n, meetM0 m, -Int.tdiv_neg, -Int.neg_tdiv, -Int.reduceTDiv]
theorem d67x2_1000 {F : Nat → List Int → Option (List Int)} {a b c d : Int} (g32 : F 32 = meet3S) (g91 : F 91 = containsS) (hr : in4 a b c d) (hab : a ≤ b) (hcd : c ≤ d) (p : 1 ≤ d) (n : ¬ c ≤ -2) (m : ¬ -9223372036854775808 < b) (m' : ¬ (c ≤ -1 ∧ -1 ≤ d)) : t67x2.den F 0 [2, a, b, c, d] = some (0, quotR 2 a b c d) := by
  obtain ⟨ha, hb, hc, hd⟩ := hr
  have ct : ∀ x y n, containsS [x, y, n] = some [if x ≤ n ∧ n ≤ y then 1 else 0] := fun _ _ _ => rfl
  have u1 : ∀ v, inI v → 1 ≤ d → w64 (v.tdiv (max c 1)) = v.tdiv (max c 1) ∧ w64 (v.tdiv d) = v.tdiv d := fun v hv h => ⟨wq hv (by omega) (by omega), wq hv (by omega) (by omega)⟩
  have u2 : ∀ v, inI v → c ≤ -2 → w64 (v.tdiv c) = v.tdiv c ∧ w64 (v.tdiv (min d (-2))) = v.tdiv (min d (-2)) := fun v hv h => ⟨wq hv (by omega) (by omega), wq hv (by omega) (by omega)⟩
  have u3 : -9223372036854775808 < b → w64 ((max a (-9223372036854775807)).tdiv (-1)) = (max a (-9223372036854775807)).tdiv (-1) ∧ w64 (b.tdiv (-1)) = b.tdiv (-1) := fun h => ⟨wq (by unfold inI at *; omega) (by omega) (by omega), wq hb (by omega) (by omega)⟩
  have z1 : 1 ≤ d → ¬ max c 1 = 0 ∧ ¬ d = 0 := fun h => by omega
  have z2 : c ≤ -2 → ¬ c = 0 ∧ ¬ min d (-2) = 0 := fun h => by omega
  have el : (LST : Int) + 1 = -9223372036854775807 := by decide
  obtain ⟨x1, x2⟩ := u1 a ha p
  obtain ⟨x3, x4⟩ := u1 b hb p
  obtain ⟨y1, y2⟩ := z1 p
  rw [quotR_eq ha hab hcd (.inl p)]
  have b1 : boxesP a b c d = [(a, b, max c 1, d)] := by
    unfold boxesP
    rw [el]
    rw [if_pos p, if_neg n, if_neg (by omega)]
    rfl
  simp [t67x2, T.den, B.den, A.den, E.den, Cm.den, g32, g91, ct, b1, c4, minL, maxL, ite_one, mn_eq, mx_eq, min_self', max_self', wrap64, p, n, m, m', x1, x2, x3, x4, y1, y2, meetP hd hcd p, meetN0 n, meetM0 m, -Int.tdiv_neg, -Int.neg_tdiv, -Int.reduceTDiv]
theorem d67x2_0111 {F : Nat → List Int → Option (List Int)} {a b c d : Int} (g32 : F 32 = meet3S) (g91 : F 91 = containsS) (hr : in4 a b c d) (hab : a ≤ b) (hcd : c ≤ d) (p : ¬ 1 ≤ d) (n : c ≤ -2) (m : -9223372036854775808 < b) (m' : (c ≤ -1 ∧ -1 ≤ d)) : t67x2.den F 0 [2, a, b, c, d] = some (0, quotR 2 a b c d) := by
  obtain ⟨ha, hb, hc, hd⟩ := hr
  have ct : ∀ x y n, containsS [x, y, n] = some [if x ≤ n ∧ n ≤ y then 1 else 0] := fun _ _ _ => rfl
  have u1 : ∀ v, inI v → 1 ≤ d → w64 (v.tdiv (max c 1)) = v.tdiv (max c 1) ∧ w64 (v.tdiv d) = v.tdiv d := fun v hv h => ⟨wq hv (by omega) (by omega), wq hv (by omega) (by omega)⟩
  have u2 : ∀ v, inI v → c ≤ -2 → w64 (v.tdiv c) = v.tdiv c ∧ w64 (v.tdiv (min d (-2))) = v.tdiv (min d (-2)) := fun v hv h => ⟨wq hv (by omega) (by omega), wq hv (by omega) (by omega)⟩
  have u3 : -9223372036854775808 < b → w64 ((max a (-9223372036854775807)).tdiv (-1)) = (max a (-9223372036854775807)).tdiv (-1) ∧ w64 (b.tdiv (-1)) = b.tdiv (-1) := fun h => ⟨wq (by unfold inI at *; omega) (by omega) (by omega), wq hb (by omega) (by omega)⟩
  have z1 : 1 ≤ d → ¬ max c 1 = 0 ∧ ¬ d = 0 := fun h => by omega
  have z2 : c ≤ -2 → ¬ c = 0 ∧ ¬ min d (-2) = 0 := fun h => by omega
  have el : (LST : Int) + 1 = -9223372036854775807 := by decide
  obtain ⟨x5, x6⟩ := u2 a ha n
  obtain ⟨x7, x8⟩ := u2 b hb n
  obtain ⟨y3, y4⟩ := z2 n
  obtain ⟨x9, x10⟩ := u3 m
  rw [quotR_eq ha hab hcd (.inr (.inl n))]
  have b1 : boxesP a b c d = [(a, b, c, min d (-2)), (max a (-9223372036854775807), b, -1, -1)] := by
    unfold boxesP
    rw [el]
    rw [if_neg p, if_pos n, if_pos (by omega)]
    rfl
  simp [t67x2, T.den, B.den, A.den, E.den, Cm.den, g32, g91, ct, b1, c4, minL, maxL, ite_one, mn_eq, mx_eq, min_self', max_self', wrap64, p, n, m, m', meetP0 p, x5, x6, x7, x8, y3, y4, meetN hc hcd n, x9, x10, meetM hb hab m, -Int.tdiv_neg, -Int.neg_tdiv, -Int.reduceTDiv]
theorem d67x2_0110 {F : Nat → List Int → Option (List Int)} {a b c d : Int} (g32 : F 32 = meet3S) (g91 : F 91 = containsS) (hr : in4 a b c d) (hab : a ≤ b) (hcd : c ≤ d) (p : ¬ 1 ≤ d) (n : c ≤ -2) (m : -9223372036854775808 < b) (m' : ¬ (c ≤ -1 ∧ -1 ≤ d)) : t67x2.den F 0 [2, a, b, c, d] = some (0, quotR 2 a b c d) := by
  obtain ⟨ha, hb, hc, hd⟩ := hr
  have ct : ∀ x y n, containsS [x, y, n] = some [if x ≤ n ∧ n ≤ y then 1 else 0] := fun _ _ _ => rfl
  have u1 : ∀ v, inI v → 1 ≤ d → w64 (v.tdiv (max c 1)) = v.tdiv (max c 1) ∧ w64 (v.tdiv d) = v.tdiv d := fun v hv h => ⟨wq hv (by omega) (by omega), wq hv (by omega) (by omega)⟩
  have u2 : ∀ v, inI v → c ≤ -2 → w64 (v.tdiv c) = v.tdiv c ∧ w64 (v.tdiv (min d (-2))) = v.tdiv (min d (-2)) := fun v hv h => ⟨wq hv (by omega) (by omega), wq hv (by omega) (by omega)⟩
  have u3 : -9223372036854775808 < b → w64 ((max a (-9223372036854775807)).tdiv (-1)) = (max a (-9223372036854775807)).tdiv (-1) ∧ w64 (b.tdiv (-1)) = b.tdiv (-1) := fun h => ⟨wq (by unfold inI at *; omega) (by omega) (by omega), wq hb (by omega) (by omega)⟩
  have z1 : 1 ≤ d → ¬ max c 1 = 0 ∧ ¬ d = 0 := fun h => by omega
  have z2 : c ≤ -2 → ¬ c = 0 ∧ ¬ min d (-2) = 0 := fun h => by omega
  have el : (LST : Int) + 1 = -9223372036854775807 := by decide
  obtain ⟨x5, x6⟩ := u2 a ha n
  obtain ⟨x7, x8⟩ := u2 b hb n
  obtain ⟨y3, y4⟩ := z2 n
  obtain ⟨x9, x10⟩ := u3 m
  rw [quotR_eq ha hab hcd (.inr (.inl n))]
  have b1 : boxesP a b c d = [(a, b, c, min d (-2))] := by
    unfold boxesP
    rw [el]
    rw [if_neg p, if_pos n, if_neg (by omega)]
    rfl
  simp [t67x2, T.den, B.den, A.den, E.den, Cm.den, g32, g91, ct, b1, c4, minL, maxL, ite_one, mn_eq, mx_eq, min_self', max_self', wrap64, p, n, m, m', meetP0 p, x5, x6, x7, x8, y3, y4, meetN hc hcd n, x9, x10, meetM hb hab m, -Int.tdiv_neg, -Int.neg_tdiv, -Int.reduceTDiv]
theorem d67x2_0101 {F : Nat → List Int → Option (List Int)} {a b c d : Int} (g32 : F 32 = meet3S) (g91 : F 91 = containsS) (hr : in4 a b c d) (hab : a ≤ b) (hcd : c ≤ d) (p : ¬ 1 ≤ d) (n : c ≤ -2) (m : ¬ -9223372036854775808 < b) (m' : (c ≤ -1 ∧ -1 ≤ d)) : t67x2.den F 0 [2, a, b, c, d] = some (0, quotR 2 a b c d) := by
  obtain ⟨ha, hb, hc, hd⟩ := hr
  have ct : ∀ x y n, containsS [x, y, n] = some [if x ≤ n ∧ n ≤ y then 1 else 0] := fun _ _ _ => rfl
  have u1 : ∀ v, inI v → 1 ≤ d → w64 (v.tdiv (max c 1)) = v.tdiv (max c 1) ∧ w64 (v.tdiv d) = v.tdiv d := fun v hv h => ⟨wq hv (by omega) (by omega), wq hv (by omega) (by omega)⟩
  have u2 : ∀ v, inI v → c ≤ -2 → w64 (v.tdiv c) = v.tdiv c ∧ w64 (v.tdiv (min d (-2))) = v.tdiv (min d (-2)) := fun v hv h => ⟨wq hv (by omega) (by omega), wq hv (by omega) (by omega)⟩
  have u3 : -9223372036854775808 < b → w64 ((max a (-9223372036854775807)).tdiv (-1)) = (max a (-9223372036854775807)).tdiv (-1) ∧ w64 (b.tdiv (-1)) = b.tdiv (-1) := fun h => ⟨wq (by unfold inI at *; omega) (by omega) (by omega), wq hb (by omega) (by omega)⟩
  have z1 : 1 ≤ d → ¬ max c 1 = 0 ∧ ¬ d = 0 := fun h => by omega
  have z2 : c ≤ -2 → ¬ c = 0 ∧ ¬ min d (-2) = 0 := fun h => by omega
  have el : (LST : Int) + 1 = -9223372036854775807 := by decide
  obtain ⟨x5, x6⟩ := u2 a ha n
  obtain ⟨x7, x8⟩ := u2 b hb n
  obtain ⟨y3, y4⟩ := z2 n
  rw [quotR_eq ha hab hcd (.inr (.inl n))]
  have b1 : boxesP a b c d = [(a, b, c, min d (-2))] := by
    unfold boxesP
    rw [el]
    rw [if_neg p, if_pos n, if_neg (by omega)]
    rfl
  simp [t67x2, T.den, B.den, A.den, E.den, Cm.den, g32, g91, ct, b1, c4, minL, maxL, ite_one, mn_eq, mx_eq, min_self', max_self', wrap64, p, n, m, m', meetP0 p, x5, x6, x7, x8, y3, y4, meetN hc hcd n, meetM0 m, -Int.tdiv_neg, -Int.neg_tdiv, -Int.reduceTDiv]
theorem d67x2_0100 {F : Nat → List Int → Option (List Int)} {a b c d : Int} (g32 : F 32 = meet3S) (g91 : F 91 = containsS) (hr : in4 a b c d) (hab : a ≤ b) (hcd : c ≤ d) (p : ¬ 1 ≤ d) (n : c ≤ -2) (m : ¬ -9223372036854775808 < b) (m' : ¬ (c ≤ -1 ∧ -1 ≤ d)) : t67x2.den F 0 [2, a, b, c, d] = some (0, quotR 2 a b c d) := by
  obtain ⟨ha, hb, hc, hd⟩ := hr
  have ct : ∀ x y n, containsS [x, y, n] = some [if x ≤ n ∧ n ≤ y then 1 else 0] := fun _ _ _ => rfl
  have u1 : ∀ v, inI v → 1 ≤ d → w64 (v.tdiv (max c 1)) = v.tdiv (max c 1) ∧ w64 (v.tdiv d) = v.tdiv d := fun v hv h => ⟨wq hv (by omega) (by omega), wq hv (by omega) (by omega)⟩
  have u2 : ∀ v, inI v → c ≤ -2 → w64 (v.tdiv c) = v.tdiv c ∧ w64 (v.tdiv (min d (-2))) = v.tdiv (min d (-2)) := fun v hv h => ⟨wq hv (by omega) (by omega), wq hv (by omega) (by omega)⟩
  have u3 : -9223372036854775808 < b → w64 ((max a (-9223372036854775807)).tdiv (-1)) = (max a (-9223372036854775807)).tdiv (-1) ∧ w64 (b.tdiv (-1)) = b.tdiv (-1) := fun h => ⟨wq (by unfold inI at *; omega) (by omega) (by omega), wq hb (by omega) (by omega)⟩
  have z1 : 1 ≤ d → ¬ max c 1 = 0 ∧ ¬ d = 0 := fun h => by omega
  have z2 : c ≤ -2 → ¬ c = 0 ∧ ¬ min d (-2) = 0 := fun h => by omega
  have el : (LST : Int) + 1 = -9223372036854775807 := by decide
  obtain ⟨x5, x6⟩ := u2 a ha n
  obtain ⟨x7, x8⟩ := u2 b hb n
  obtain ⟨y3, y4⟩ := z2 n
  rw [quotR_eq ha hab hcd (.inr (.inl n))]
  have b1 : boxesP a b c d = [(a, b, c, min d (-2))] := by
    unfold boxesP
    rw [el]
    rw [if_neg p, if_pos n, if_neg (by omega)]
    rfl
  simp [t67x2, T.den, B.den, A.den, E.den, Cm.den, g32, g91, ct, b1, c4, minL, maxL, ite_one, mn_eq, mx_eq, min_self', max_self', wrap64, p, n, m, m', meetP0 p, x5, x6, x7, x8, y3, y4, meetN hc hcd n, meetM0 m, -Int.tdiv_neg, -Int.neg_tdiv, -Int.reduceTDiv]
theorem d67x2_0011 {F : Nat → List Int → Option (List Int)} {a b c d : Int} (g32 : F 32 = meet3S) (g91 : F 91 = containsS) (hr : in4 a b c d) (hab : a ≤ b) (hcd : c ≤ d) (p : ¬ 1 ≤ d) (n : ¬ c ≤ -2) (m : -9223372036854775808 < b) (m' : (c ≤ -1 ∧ -1 ≤ d)) : t67x2.den F 0 [2, a, b, c, d] = some (0, quotR 2 a b c d) := by
  obtain ⟨ha, hb, hc, hd⟩ := hr
  have ct : ∀ x y n, containsS [x, y, n] = some [if x ≤ n ∧ n ≤ y then 1 else 0] := fun _ _ _ => rfl
  have u1 : ∀ v, inI v → 1 ≤ d → w64 (v.tdiv (max c 1)) = v.tdiv (max c 1) ∧ w64 (v.tdiv d) = v.tdiv d := fun v hv h => ⟨wq hv (by omega) (by omega), wq hv (by omega) (by omega)⟩
  have u2 : ∀ v, inI v → c ≤ -2 → w64 (v.tdiv c) = v.tdiv c ∧ w64 (v.tdiv (min d (-2))) = v.tdiv (min d (-2)) := fun v hv h => ⟨wq hv (by omega) (by omega), wq hv (by omega) (by omega)⟩
  have u3 : -9223372036854775808 < b → w64 ((max a (-9223372036854775807)).tdiv (-1)) = (max a (-9223372036854775807)).tdiv (-1) ∧ w64 (b.tdiv (-1)) = b.tdiv (-1) := fun h => ⟨wq (by unfold inI at *; omega) (by omega) (by omega), wq hb (by omega) (by omega)⟩
  have z1 : 1 ≤ d → ¬ max c 1 = 0 ∧ ¬ d = 0 := fun h => by omega
  have z2 : c ≤ -2 → ¬ c = 0 ∧ ¬ min d (-2) = 0 := fun h => by omega
  have el : (LST : Int) + 1 = -9223372036854775807 := by decide
  obtain ⟨x9, x10⟩ := u3 m
  rw [quotR_eq ha hab hcd ((.inr (.inr ⟨m, m'.1, m'.2⟩)))]
  have b1 : boxesP a b c d = [(max a (-9223372036854775807), b, -1, -1)] := by
    unfold boxesP
    rw [el]
    rw [if_neg p, if_neg n, if_pos (by omega)]
    rfl
  simp [t67x2, T.den, B.den, A.den, E.den, Cm.den, g32, g91, ct, b1, c4, minL, maxL, ite_one, mn_eq, mx_eq, min_self', max_self', wrap64, p, n, m, m', meetP0 p, meetN0 n, x9, x10, meetM hb hab m, -Int.tdiv_neg, -Int.neg_tdiv, -Int.reduceTDiv]
theorem d67x2_0010 {F : Nat → List Int → Option (List Int)} {a b c d : Int} (g32 : F 32 = meet3S) (g91 : F 91 = containsS) (hr : in4 a b c d) (hab : a ≤ b) (hcd : c ≤ d) (p : ¬ 1 ≤ d) (n : ¬ c ≤ -2) (m : -9223372036854775808 < b) (m' : ¬ (c ≤ -1 ∧ -1 ≤ d)) : t67x2.den F 0 [2, a, b, c, d] = some (0, quotR 2 a b c d) := by
  obtain ⟨ha, hb, hc, hd⟩ := hr
  have ct : ∀ x y n, containsS [x, y, n] = some [if x ≤ n ∧ n ≤ y then 1 else 0] := fun _ _ _ => rfl
  have u1 : ∀ v, inI v → 1 ≤ d → w64 (v.tdiv (max c 1)) = v.tdiv (max c 1) ∧ w64 (v.tdiv d) = v.tdiv d := fun v hv h => ⟨wq hv (by omega) (by omega), wq hv (by omega) (by omega)⟩
  have u2 : ∀ v, inI v → c ≤ -2 → w64 (v.tdiv c) = v.tdiv c ∧ w64 (v.tdiv (min d (-2))) = v.tdiv (min d (-2)) := fun v hv h => ⟨wq hv (by omega) (by omega), wq hv (by omega) (by omega)⟩
  have u3 : -9223372036854775808 < b → w64 ((max a (-9223372036854775807)).tdiv (-1)) = (max a (-9223372036854775807)).tdiv (-1) ∧ w64 (b.tdiv (-1)) = b.tdiv (-1) := fun h => ⟨wq (by unfold inI at *; omega) (by omega) (by omega), wq hb (by omega) (by omega)⟩
  have z1 : 1 ≤ d → ¬ max c 1 = 0 ∧ ¬ d = 0 := fun h => by omega
  have z2 : c ≤ -2 → ¬ c = 0 ∧ ¬ min d (-2) = 0 := fun h => by omega
  have el : (LST : Int) + 1 = -9223372036854775807 := by decide
  obtain ⟨x9, x10⟩ := u3 m
  rw [quotR_eq0 ha hab hcd (by unfold someD; omega)]
  have b1 : boxesP a b c d = [] := by
    unfold boxesP
    rw [el]
    rw [if_neg p, if_neg n, if_neg (by omega)]
    rfl
  simp [t67x2, T.den, B.den, A.den, E.den, Cm.den, g32, g91, ct, b1, c4, minL, maxL, ite_one, mn_eq, mx_eq, min_self', max_self', wrap64, p, n, m, m', meetP0 p, meetN0 n, x9, x10, meetM hb hab m, -Int.tdiv_neg, -Int.neg_tdiv, -Int.reduceTDiv]
theorem d67x2_0001 {F : Nat → List Int → Option (List Int)} {a b c d : Int} (g32 : F 32 = meet3S) (g91 : F 91 = containsS) (hr : in4 a b c d) (hab : a ≤ b) (hcd : c ≤ d) (p : ¬ 1 ≤ d) (n : ¬ c ≤ -2) (m : ¬ -9223372036854775808 < b) (m' : (c ≤ -1 ∧ -1 ≤ d)) : t67x2.den F 0 [2, a, b, c, d] = some (0, quotR 2 a b c d) := by
  obtain ⟨ha, hb, hc, hd⟩ := hr
  have ct : ∀ x y n, containsS [x, y, n] = some [if x ≤ n ∧ n ≤ y then 1 else 0] := fun _ _ _ => rfl
  have u1 : ∀ v, inI v → 1 ≤ d → w64 (v.tdiv (max c 1)) = v.tdiv (max c 1) ∧ w64 (v.tdiv d) = v.tdiv d := fun v hv h => ⟨wq hv (by omega) (by omega), wq hv (by omega) (by omega)⟩
  have u2 : ∀ v, inI v → c ≤ -2 → w64 (v.tdiv c) = v.tdiv c ∧ w64 (v.tdiv (min d (-2))) = v.tdiv (min d (-2)) := fun v hv h => ⟨wq hv (by omega) (by omega), wq hv (by omega) (by omega)⟩
  have u3 : -9223372036854775808 < b → w64 ((max a (-9223372036854775807)).tdiv (-1)) = (max a (-9223372036854775807)).tdiv (-1) ∧ w64 (b.tdiv (-1)) = b.tdiv (-1) := fun h => ⟨wq (by unfold inI at *; omega) (by omega) (by omega), wq hb (by omega) (by omega)⟩
  have z1 : 1 ≤ d → ¬ max c 1 = 0 ∧ ¬ d = 0 := fun h => by omega
  have z2 : c ≤ -2 → ¬ c = 0 ∧ ¬ min d (-2) = 0 := fun h => by omega
  have el : (LST : Int) + 1 = -9223372036854775807 := by decide
  rw [quotR_eq0 ha hab hcd (by unfold someD; omega)]
  have b1 : boxesP a b c d = [] := by
    unfold boxesP
    rw [el]
    rw [if_neg p, if_neg n, if_neg (by omega)]
    rfl
  simp [t67x2, T.den, B.den, A.den, E.den, Cm.den, g32, g91, ct, b1, c4, minL, maxL, ite_one, mn_eq, mx_eq, min_self', max_self', wrap64, p, n, m, m', meetP0 p, meetN0 n, meetM0 m, -Int.tdiv_neg, -Int.neg_tdiv, -Int.reduceTDiv]
theorem d67x2_0000 {F : Nat → List Int → Option (List Int)} {a b c d : Int} (g32 : F 32 = meet3S) (g91 : F 91 = containsS) (hr : in4 a b c d) (hab : a ≤ b) (hcd : c ≤ d) (p : ¬ 1 ≤ d) (n : ¬ c ≤ -2) (m : ¬ -9223372036854775808 < b) (m' : ¬ (c ≤ -1 ∧ -1 ≤ d)) : t67x2.den F 0 [2, a, b, c, d] = some (0, quotR 2 a b c d) := by
  obtain ⟨ha, hb, hc, hd⟩ := hr
  have ct : ∀ x y n, containsS [x, y, n] = some [if x ≤ n ∧ n ≤ y then 1 else 0] := fun _ _ _ => rfl
  have u1 : ∀ v, inI v → 1 ≤ d → w64 (v.tdiv (max c 1)) = v.tdiv (max c 1) ∧ w64 (v.tdiv d) = v.tdiv d := fun v hv h => ⟨wq hv (by omega) (by omega), wq hv (by omega) (by omega)⟩
  have u2 : ∀ v, inI v → c ≤ -2 → w64 (v.tdiv c) = v.tdiv c ∧ w64 (v.tdiv (min d (-2))) = v.tdiv (min d (-2)) := fun v hv h => ⟨wq hv (by omega) (by omega), wq hv (by omega) (by omega)⟩
  have u3 : -9223372036854775808 < b → w64 ((max a (-9223372036854775807)).tdiv (-1)) = (max a (-9223372036854775807)).tdiv (-1) ∧ w64 (b.tdiv (-1)) = b.tdiv (-1) := fun h => ⟨wq (by unfold inI at *; omega) (by omega) (by omega), wq hb (by omega) (by omega)⟩
  have z1 : 1 ≤ d → ¬ max c 1 = 0 ∧ ¬ d = 0 := fun h => by omega
  have z2 : c ≤ -2 → ¬ c = 0 ∧ ¬ min d (-2) = 0 := fun h => by omega
  have el : (LST : Int) + 1 = -9223372036854775807 := by decide
  rw [quotR_eq0 ha hab hcd (by unfold someD; omega)]
  have b1 : boxesP a b c d = [] := by
    unfold boxesP
    rw [el]
    rw [if_neg p, if_neg n, if_neg (by omega)]
    rfl
  simp [t67x2, T.den, B.den, A.den, E.den, Cm.den, g32, g91, ct, b1, c4, minL, maxL, ite_one, mn_eq, mx_eq, min_self', max_self', wrap64, p, n, m, m', meetP0 p, meetN0 n, meetM0 m, -Int.tdiv_neg, -Int.neg_tdiv, -Int.reduceTDiv]
theorem d67x2 {F : Nat → List Int → Option (List Int)} {a b c d : Int} (g32 : F 32 = meet3S) (g91 : F 91 = containsS) (hr : in4 a b c d) (hab : a ≤ b) (hcd : c ≤ d) : t67x2.den F 0 [2, a, b, c, d] = some (0, quotR 2 a b c d) := by
  by_cases p : 1 ≤ d <;> by_cases n : c ≤ -2 <;> by_cases m : -9223372036854775808 < b <;> by_cases m' : c ≤ -1 ∧ -1 ≤ d
  · exact d67x2_1111 g32 g91 hr hab hcd p n m m'
  · exact d67x2_1110 g32 g91 hr hab hcd p n m m'
  · exact d67x2_1101 g32 g91 hr hab hcd p n m m'
  · exact d67x2_1100 g32 g91 hr hab hcd p n m m'
  · exact d67x2_1011 g32 g91 hr hab hcd p n m m'
  · exact d67x2_1010 g32 g91 hr hab hcd p n m m'
  · exact d67x2_1001 g32 g91 hr hab hcd p n m m'
  · exact d67x2_1000 g32 g91 hr hab hcd p n m m'
  · exact d67x2_0111 g32 g91 hr hab hcd p n m m'
  · exact d67x2_0110 g32 g91 hr hab hcd p n m m'
  · exact d67x2_0101 g32 g91 hr hab hcd p n m m'
  · exact d67x2_0100 g32 g91 hr hab hcd p n m m'
  · exact d67x2_0011 g32 g91 hr hab hcd p n m m'
  · exact d67x2_0010 g32 g91 hr hab hcd p n m m'
  · exact d67x2_0001 g32 g91 hr hab hcd p n m m'
  · exact d67x2_0000 g32 g91 hr hab hcd p n m m'
noncomputable def p67 : Sp := (67, sg67, quotS)
theorem e67 : Ent p67 := by
  intro args rs w h hl hg
  match args, hl with
  | [k, a, b, c, d], _ =>
    simp only [p67, quotS] at h
    split at h
    · rename_i hr
      cases h
      obtain ⟨rfl | rfl, hr, hab, hcd⟩ := hr
      · exact ent_run unAll (l := [p32, p91]) (ents_cons e32 (ents_cons e91 ents_nil)) (is := [1, a, b, c, d]) (K := 0) q67x1 rfl rfl (by kernel_rfl) (fun _ h => absurd h List.not_mem_nil) (fun _ h => absurd h List.not_mem_nil) hg (d67x1 rfl rfl hr hab hcd)
      · exact ent_run unAll (l := [p32, p91]) (ents_cons e32 (ents_cons e91 ents_nil)) (is := [2, a, b, c, d]) (K := 0) q67x2 rfl rfl (by kernel_rfl) (fun _ h => absurd h List.not_mem_nil) (fun _ h => absurd h List.not_mem_nil) hg (d67x2 rfl rfl hr hab hcd)
    · cases h
end Go.SXR

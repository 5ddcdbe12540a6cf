/- RANGES: Unary and ToSmall of the program; ToSmall of the reference. -/
import Derived.Test.YtncaejnkpmmoeaaDoorSxRX
set_option linter.unusedVariables false
set_option linter.unusedSimpArgs false
namespace Go.SXR
open Go Go.SX Go.Proofs Go.RowKit

theorem w64_mod {x : Int} (h : inI x) : w64 (x % 18446744073709551616) = x := by unfold inI at h; unfold w64; omega
theorem min_self' (x : Int) : min x x = x := by omega
theorem max_self' (x : Int) : max x x = x := by omega
def sg30 : Sig := ⟨[(.agg [.int .i64, .int .i64])], [(.agg [.int .i64, .int .i64]), I]⟩
def t30 : T := (.br (.or (.or (.cmp .lt (.v 1) (.v 0)) (.cmp .lt (.v 0) (.n (-9223372036854775808)))) (.cmp .lt (.n 9223372036854775807) (.v 1))) (.ret [(.n 0), (.n 0), (.n 2)]) (.lt (.shr .i64 (.v 0) (.n 8)) (.lt (.shr .i64 (.v 1) (.n 8)) (.br (.not (.cmp .eq (.v 2) (.v 3))) (.ret [(.n 0), (.n 255), (.n 0)]) (.lt (.band .i64 (.v 0) (.n 255)) (.lt (.band .i64 (.v 1) (.n 255)) (.ret [(.v 4), (.v 5), (.n 0)])))))))
theorem q30 : sxFunc (Cf [] unAll) 200 30 sg30 = t30 := by kernel_rfl
def p30 : Sp := (30, sg30, toSmallS)
theorem e30 : Ent p30 := ent_of unAll (l := []) ents_nil q30 fun args rs h hl => by
  match args, hl with
  | [a, b], _ =>
    simp only [toSmallS] at h
    split at h
    · rename_i hr
      cases h
      refine ⟨0, ?_⟩
      have h1 : ¬ a < -9223372036854775808 := by unfold inI at hr; omega
      have h2 : ¬ 9223372036854775807 < b := by unfold inI at hr; omega
      unfold smL smH smE brL brH
      by_cases hab : b < a
      · simp [t30, T.den, B.den, A.den, E.den, Cm.den, hab]
      · by_cases he : a / 256 = b / 256
        · simp [t30, T.den, B.den, A.den, E.den, Cm.den, hab, h1, h2, shr8, shr8', and255, he, hr.1, hr.2]
        · simp [t30, T.den, B.den, A.den, E.den, Cm.den, hab, h1, h2, shr8, shr8', and255, he, hr.1, hr.2, fullL, fullH]
    · cases h
def sg29 : Sig := ⟨[(.agg [.int .i64, .int .i64])], [(.agg [.int .i64, .int .i64]), I]⟩
def t29 : T := (.br (.or (.or (.cmp .lt (.v 1) (.v 0)) (.cmp .lt (.v 0) (.n (-9223372036854775808)))) (.cmp .lt (.n 9223372036854775807) (.v 1))) (.ret [(.n 0), (.n 0), (.n 2)]) (.lt (.shr .i64 (.v 0) (.n 63)) (.lt (.wrap .u64 (.v 0)) (.lt (.shr .i64 (.v 1) (.n 63)) (.lt (.wrap .u64 (.v 1)) (.lt (.wrap .i64 (.v 3)) (.lt (.shr .i64 (.v 6) (.n 63)) (.br (.not (.cmp .eq (.v 2) (.v 7))) (.ret [(.n 0), (.n 255), (.n 0)]) (.lt (.wrap .i64 (.v 3)) (.lt (.wrap .i64 (.v 5)) (.lt (.shr .i64 (.v 9) (.n 63)) (.br (.not (.cmp .eq (.v 4) (.v 10))) (.ret [(.n 0), (.n 255), (.n 0)]) (.lt (.wrap .i64 (.v 5)) (.lt (.mn (.v 8) (.v 8)) (.lt (.mx (.v 8) (.v 8)) (.lt (.mn (.v 12) (.v 11)) (.lt (.mx (.v 13) (.v 11)) (.lt (.shr .i64 (.v 14) (.n 8)) (.lt (.shr .i64 (.v 15) (.n 8)) (.br (.not (.cmp .eq (.v 16) (.v 17))) (.ret [(.n 0), (.n 255), (.n 0)]) (.lt (.band .i64 (.v 14) (.n 255)) (.lt (.band .i64 (.v 15) (.n 255)) (.ret [(.v 18), (.v 19), (.n 0)])))))))))))))))))))))))
theorem q29 : sxFunc (Cf [] unAll) 200 29 sg29 = t29 := by kernel_rfl
def p29 : Sp := (29, sg29, toSmallS)
theorem e29 : Ent p29 := ent_of unAll (l := []) ents_nil q29 fun args rs h hl => by
  match args, hl with
  | [a, b], _ =>
    simp only [toSmallS] at h
    split at h
    · rename_i hr
      cases h
      refine ⟨0, ?_⟩
      have h1 : ¬ a < -9223372036854775808 := by unfold inI at hr; omega
      have h2 : ¬ 9223372036854775807 < b := by unfold inI at hr; omega
      unfold smL smH smE brL brH
      by_cases hab : b < a
      · simp [t29, T.den, B.den, A.den, E.den, Cm.den, hab]
      · have m1 : min a b = a := by omega
        have m2 : max a b = b := by omega
        by_cases he : a / 256 = b / 256
        · simp [t29, T.den, B.den, A.den, E.den, Cm.den, hab, h1, h2, shr63, shr8, shr63', shr8', and255, he, hr.1, hr.2, wrap64, wrapU, w64_mod hr.1, w64_mod hr.2, mn_eq, mx_eq, m1, m2]
        · simp [t29, T.den, B.den, A.den, E.den, Cm.den, hab, h1, h2, shr63, shr8, shr63', shr8', and255, he, hr.1, hr.2, wrap64, wrapU, w64_mod hr.1, w64_mod hr.2, mn_eq, mx_eq, m1, m2, fullL, fullH]
    · cases h

/-! ### Unary, operator by operator and kind by kind -/
def sg26 : Sig := ⟨[I, I, RG], [RG, I]⟩
theorem okR1 {a b : Int} (ha : inI a) (hb : inI b) : okR 1 a b ↔ ¬ ((b < a ∨ a < -9223372036854775808) ∨ 9223372036854775807 < b) := by unfold inI at ha hb; unfold okR; omega
theorem okR2 {a b : Int} : okR 2 a b ↔ ¬ ((b < a ∨ a < 0) ∨ 255 < b) := by unfold okR; omega
theorem okR3 {a b : Int} : okR 3 a b ↔ ¬ ((b < a ∨ a < 0) ∨ 1 < b) := by unfold okR; omega
/-- Minus a number, of 128 bits. -/
theorem neg_hi {a : Int} (h : inI a) : w64 (w64 (w64 (-1 - a / 9223372036854775808) + 0) + w64 (((-1 - a % 18446744073709551616) % 18446744073709551616 + 1 + 0) / 18446744073709551616)) = (-a) / 18446744073709551616 := by
  unfold inI at h
  have hc : a = 0 ∨ 0 < a ∨ a < 0 := by omega
  rcases hc with rfl | hc | hc
  · decide
  · have e1 : a / 9223372036854775808 = 0 := by omega
    have e2 : ((-1 - a % 18446744073709551616) % 18446744073709551616 + 1 + 0) / 18446744073709551616 = 0 := by omega
    have e3 : (-a) / 18446744073709551616 = -1 := by omega
    rw [e1, e2, e3]; decide
  · have e1 : a / 9223372036854775808 = -1 := by omega
    have e2 : ((-1 - a % 18446744073709551616) % 18446744073709551616 + 1 + 0) / 18446744073709551616 = 0 := by omega
    have e3 : (-a) / 18446744073709551616 = 0 := by omega
    rw [e1, e2, e3]; decide
theorem neg_lo {a : Int} (h : inI a) : ((-1 - a % 18446744073709551616) % 18446744073709551616 + 1 + 0) % 18446744073709551616 = (-a) % 18446744073709551616 := by omega
theorem fit_iff {x : Int} : x / 18446744073709551616 = w64 (x % 18446744073709551616) / 9223372036854775808 ↔ inI x := by
  unfold inI w64; omega
theorem fit_beq (x : Int) : (x / 18446744073709551616 == w64 (x % 18446744073709551616) / 9223372036854775808) = decide (inI x) := by
  rw [Bool.eq_iff_iff, beq_iff_eq, decide_eq_true_eq]
  exact fit_iff
theorem add64_neg (a : Int) : add64S [(-1 - a % 18446744073709551616) % 18446744073709551616, 1, 0] = some [((-1 - a % 18446744073709551616) % 18446744073709551616 + 1 + 0) % 18446744073709551616, ((-1 - a % 18446744073709551616) % 18446744073709551616 + 1 + 0) / 18446744073709551616] := if_pos (by omega)
def t26x11 : T := (.br (.or (.or (.cmp .lt (.v 3) (.v 2)) (.cmp .lt (.v 2) (.n (-9223372036854775808)))) (.cmp .lt (.n 9223372036854775807) (.v 3))) (.ret [(.n 0), (.n 0), (.n 2)]) (.lt (.shr .i64 (.v 2) (.n 63)) (.lt (.wrap .u64 (.v 2)) (.lt (.com .i64 (.v 4)) (.lt (.com .u64 (.v 5)) (.call 88 [(.v 7), (.n 1), (.n 0)] 2 (.lt (.add .i64 (.v 6) (.n 0)) (.lt (.wrap .i64 (.v 9)) (.lt (.add .i64 (.v 10) (.v 11)) (.lt (.shr .i64 (.v 3) (.n 63)) (.lt (.wrap .u64 (.v 3)) (.lt (.com .i64 (.v 13)) (.lt (.com .u64 (.v 14)) (.call 88 [(.v 16), (.n 1), (.n 0)] 2 (.lt (.add .i64 (.v 15) (.n 0)) (.lt (.wrap .i64 (.v 18)) (.lt (.add .i64 (.v 19) (.v 20)) (.lt (.wrap .i64 (.v 8)) (.lt (.shr .i64 (.v 22) (.n 63)) (.br (.not (.cmp .eq (.v 12) (.v 23))) (.ret [(.n (-9223372036854775808)), (.n 9223372036854775807), (.n 0)]) (.lt (.wrap .i64 (.v 8)) (.lt (.wrap .i64 (.v 17)) (.lt (.shr .i64 (.v 25) (.n 63)) (.br (.not (.cmp .eq (.v 21) (.v 26))) (.ret [(.n (-9223372036854775808)), (.n 9223372036854775807), (.n 0)]) (.lt (.wrap .i64 (.v 17)) (.lt (.mn (.v 24) (.v 24)) (.lt (.mx (.v 24) (.v 24)) (.lt (.mn (.v 28) (.v 27)) (.lt (.mx (.v 29) (.v 27)) (.ret [(.v 30), (.v 31), (.n 0)]))))))))))))))))))))))))))))))
theorem q26x11 : sxRun (Cf [p88] unAll) 200 26 sg26 ((mkS 0 sg26.ins).map (subst [(0, 1), (1, 1)])) [] = t26x11 := by kernel_rfl
def t26x12 : T := (.br (.or (.or (.cmp .lt (.v 3) (.v 2)) (.cmp .lt (.v 2) (.n 0))) (.cmp .lt (.n 255) (.v 3))) (.ret [(.n 0), (.n 0), (.n 2)]) (.lt (.shr .i64 (.v 2) (.n 63)) (.lt (.wrap .u64 (.v 2)) (.lt (.com .i64 (.v 4)) (.lt (.com .u64 (.v 5)) (.call 88 [(.v 7), (.n 1), (.n 0)] 2 (.lt (.add .i64 (.v 6) (.n 0)) (.lt (.wrap .i64 (.v 9)) (.lt (.add .i64 (.v 10) (.v 11)) (.lt (.shr .i64 (.v 3) (.n 63)) (.lt (.wrap .u64 (.v 3)) (.lt (.com .i64 (.v 13)) (.lt (.com .u64 (.v 14)) (.call 88 [(.v 16), (.n 1), (.n 0)] 2 (.lt (.add .i64 (.v 15) (.n 0)) (.lt (.wrap .i64 (.v 18)) (.lt (.add .i64 (.v 19) (.v 20)) (.lt (.wrap .i64 (.v 8)) (.lt (.shr .i64 (.v 22) (.n 63)) (.br (.not (.cmp .eq (.v 12) (.v 23))) (.ret [(.n 0), (.n 255), (.n 0)]) (.lt (.wrap .i64 (.v 8)) (.lt (.wrap .i64 (.v 17)) (.lt (.shr .i64 (.v 25) (.n 63)) (.br (.not (.cmp .eq (.v 21) (.v 26))) (.ret [(.n 0), (.n 255), (.n 0)]) (.lt (.wrap .i64 (.v 17)) (.lt (.mn (.v 24) (.v 24)) (.lt (.mx (.v 24) (.v 24)) (.lt (.mn (.v 28) (.v 27)) (.lt (.mx (.v 29) (.v 27)) (.lt (.shr .i64 (.v 30) (.n 8)) (.lt (.shr .i64 (.v 31) (.n 8)) (.br (.not (.cmp .eq (.v 32) (.v 33))) (.ret [(.n 0), (.n 255), (.n 0)]) (.lt (.band .i64 (.v 30) (.n 255)) (.lt (.band .i64 (.v 31) (.n 255)) (.ret [(.v 34), (.v 35), (.n 0)])))))))))))))))))))))))))))))))))))
theorem q26x12 : sxRun (Cf [p88] unAll) 200 26 sg26 ((mkS 0 sg26.ins).map (subst [(0, 1), (1, 2)])) [] = t26x12 := by kernel_rfl
def t26x13 : T := (.br (.or (.or (.cmp .lt (.v 3) (.v 2)) (.cmp .lt (.v 2) (.n 0))) (.cmp .lt (.n 1) (.v 3))) (.ret [(.n 0), (.n 0), (.n 2)]) (.ret [(.n 0), (.n 0), (.n 2)]))
theorem q26x13 : sxRun (Cf [p88] unAll) 200 26 sg26 ((mkS 0 sg26.ins).map (subst [(0, 1), (1, 3)])) [] = t26x13 := by kernel_rfl
def t26x21 : T := (.br (.or (.or (.cmp .lt (.v 3) (.v 2)) (.cmp .lt (.v 2) (.n (-9223372036854775808)))) (.cmp .lt (.n 9223372036854775807) (.v 3))) (.ret [(.n 0), (.n 0), (.n 2)]) (.ret [(.n 0), (.n 0), (.n 2)]))
theorem q26x21 : sxRun (Cf [p88] unAll) 200 26 sg26 ((mkS 0 sg26.ins).map (subst [(0, 2), (1, 1)])) [] = t26x21 := by kernel_rfl
def t26x22 : T := (.br (.or (.or (.cmp .lt (.v 3) (.v 2)) (.cmp .lt (.v 2) (.n 0))) (.cmp .lt (.n 255) (.v 3))) (.ret [(.n 0), (.n 0), (.n 2)]) (.ret [(.n 0), (.n 0), (.n 2)]))
theorem q26x22 : sxRun (Cf [p88] unAll) 200 26 sg26 ((mkS 0 sg26.ins).map (subst [(0, 2), (1, 2)])) [] = t26x22 := by kernel_rfl
def t26x23 : T := (.br (.or (.or (.cmp .lt (.v 3) (.v 2)) (.cmp .lt (.v 2) (.n 0))) (.cmp .lt (.n 1) (.v 3))) (.ret [(.n 0), (.n 0), (.n 2)]) (.lt (.sub .i64 (.n 1) (.v 3)) (.lt (.sub .i64 (.n 1) (.v 2)) (.ret [(.v 4), (.v 5), (.n 0)]))))
theorem q26x23 : sxRun (Cf [p88] unAll) 200 26 sg26 ((mkS 0 sg26.ins).map (subst [(0, 2), (1, 3)])) [] = t26x23 := by kernel_rfl
def t26x31 : T := (.br (.or (.or (.cmp .lt (.v 3) (.v 2)) (.cmp .lt (.v 2) (.n (-9223372036854775808)))) (.cmp .lt (.n 9223372036854775807) (.v 3))) (.ret [(.n 0), (.n 0), (.n 2)]) (.lt (.com .i64 (.v 3)) (.lt (.com .i64 (.v 2)) (.ret [(.v 4), (.v 5), (.n 0)]))))
theorem q26x31 : sxRun (Cf [p88] unAll) 200 26 sg26 ((mkS 0 sg26.ins).map (subst [(0, 3), (1, 1)])) [] = t26x31 := by kernel_rfl
def t26x32 : T := (.br (.or (.or (.cmp .lt (.v 3) (.v 2)) (.cmp .lt (.v 2) (.n 0))) (.cmp .lt (.n 255) (.v 3))) (.ret [(.n 0), (.n 0), (.n 2)]) (.lt (.com .i64 (.v 3)) (.lt (.com .i64 (.v 2)) (.lt (.band .i64 (.v 4) (.n 255)) (.lt (.band .i64 (.v 5) (.n 255)) (.ret [(.v 6), (.v 7), (.n 0)]))))))
theorem q26x32 : sxRun (Cf [p88] unAll) 200 26 sg26 ((mkS 0 sg26.ins).map (subst [(0, 3), (1, 2)])) [] = t26x32 := by kernel_rfl
def t26x33 : T := (.br (.or (.or (.cmp .lt (.v 3) (.v 2)) (.cmp .lt (.v 2) (.n 0))) (.cmp .lt (.n 1) (.v 3))) (.ret [(.n 0), (.n 0), (.n 2)]) (.ret [(.n 0), (.n 0), (.n 2)]))
theorem q26x33 : sxRun (Cf [p88] unAll) 200 26 sg26 ((mkS 0 sg26.ins).map (subst [(0, 3), (1, 3)])) [] = t26x33 := by kernel_rfl
def t26y1 : T := (.br (.or (.or (.cmp .lt (.v 3) (.v 2)) (.cmp .lt (.v 2) (.n (-9223372036854775808)))) (.cmp .lt (.n 9223372036854775807) (.v 3))) (.ret [(.n 0), (.n 0), (.n 2)]) (.ret [(.n 0), (.n 0), (.n 2)]))
theorem q26y1 : sxRun (Cf [p88] unAll) 200 26 sg26 ((mkS 0 sg26.ins).map (subst [(1, 1)])) [((.cmp .eq (.v 0) (.n 1)), false), ((.cmp .eq (.v 0) (.n 2)), false), ((.cmp .eq (.v 0) (.n 3)), false)] = t26y1 := by kernel_rfl
def t26y2 : T := (.br (.or (.or (.cmp .lt (.v 3) (.v 2)) (.cmp .lt (.v 2) (.n 0))) (.cmp .lt (.n 255) (.v 3))) (.ret [(.n 0), (.n 0), (.n 2)]) (.ret [(.n 0), (.n 0), (.n 2)]))
theorem q26y2 : sxRun (Cf [p88] unAll) 200 26 sg26 ((mkS 0 sg26.ins).map (subst [(1, 2)])) [((.cmp .eq (.v 0) (.n 1)), false), ((.cmp .eq (.v 0) (.n 2)), false), ((.cmp .eq (.v 0) (.n 3)), false)] = t26y2 := by kernel_rfl
def t26y3 : T := (.br (.or (.or (.cmp .lt (.v 3) (.v 2)) (.cmp .lt (.v 2) (.n 0))) (.cmp .lt (.n 1) (.v 3))) (.ret [(.n 0), (.n 0), (.n 2)]) (.ret [(.n 0), (.n 0), (.n 2)]))
theorem q26y3 : sxRun (Cf [p88] unAll) 200 26 sg26 ((mkS 0 sg26.ins).map (subst [(1, 3)])) [((.cmp .eq (.v 0) (.n 1)), false), ((.cmp .eq (.v 0) (.n 2)), false), ((.cmp .eq (.v 0) (.n 3)), false)] = t26y3 := by kernel_rfl
def t26z : T := (.br (.or (.cmp .lt (.v 1) (.n 1)) (.cmp .lt (.n 3) (.v 1))) (.br (.or (.or (.cmp .lt (.v 3) (.v 2)) (.cmp .lt (.v 2) (.n 0))) (.cmp .lt (.n 0) (.v 3))) (.ret [(.n 0), (.n 0), (.n 2)]) (.ret [(.n 0), (.n 0), (.n 2)])) (.br (.cmp .eq (.v 1) (.n 0)) (.br (.or (.or (.cmp .lt (.v 3) (.v 2)) (.cmp .lt (.v 2) (.n 0))) (.cmp .lt (.n 0) (.v 3))) (.ret [(.n 0), (.n 0), (.n 2)]) (.br (.cmp .eq (.v 0) (.n 1)) (.br (.cmp .eq (.v 0) (.n 3)) (.ret [(.n 0), (.n 0), (.n 2)]) (.ret [(.n 0), (.n 0), (.n 2)])) (.br (.cmp .eq (.v 0) (.n 3)) (.ret [(.n 0), (.n 0), (.n 2)]) (.ret [(.n 0), (.n 0), (.n 2)])))) (.fail 106)))
theorem q26z : sxRun (Cf [p88] unAll) 200 26 sg26 ((mkS 0 sg26.ins).map (subst [])) [((.cmp .eq (.v 1) (.n 1)), false), ((.cmp .eq (.v 1) (.n 2)), false), ((.cmp .eq (.v 1) (.n 3)), false)] = t26z := by kernel_rfl

def un26 (op k a b : Int) : List Int := [unL op k a b, unH op k a b, unE op k a b]
theorem u11 {a b : Int} {w : World} (ha : inI a) (hb : inI b) (hg : Glob w) : CallSem Tryd.prog 26 (vS sg26.ins [1, 1, a, b]).toArray w fun v w' => v = tupW (vS sg26.outs (un26 1 1 a b)) ∧ Below w.heap.size w w' := by
  refine ent_run unAll (l := [p88]) (ents_cons e88 ents_nil) (is := [1, 1, a, b]) (K := 0) q26x11 rfl rfl (by kernel_rfl) (fun _ h => absurd h List.not_mem_nil) (fun _ h => absurd h List.not_mem_nil) hg ?_
  have g88 : fOf [p88] 88 = add64S := rfl
  have ok := okR1 ha hb
  unfold un26 unL unH unE
  by_cases hc : (b < a ∨ a < -9223372036854775808) ∨ 9223372036854775807 < b
  · have no : ¬ okR 1 a b := fun h => ok.1 h hc
    simp [t26x11, T.den, B.den, A.den, E.den, Cm.den, hc, no]
  · have yes : okR 1 a b := ok.2 hc
    have hab : a ≤ b := yes.2
    have c1 : (if IntKind.i64.signed = true then (-1 : Int) else IntKind.i64.max) = -1 := by decide
    have c2 : (if IntKind.u64.signed = true then (-1 : Int) else IntKind.u64.max) = 18446744073709551615 := by decide
    have na := neg_hi ha
    have nb := neg_hi hb
    have hc' : ((decide (b < a) || decide (a < -9223372036854775808) || decide (9223372036854775807 < b)) = false) := by simpa using hc
    simp only [t26x11, T.den, B.den, A.den, E.den, Cm.den, g88, List.map, List.getD_cons_zero, List.getD_cons_succ, List.cons_append, List.nil_append, hc', c1, c2, com64, comU, shr63, wrap64, wrapU, add64_neg, na, nb, neg_lo ha, neg_lo hb, fit_iff, Bool.false_eq_true, if_false, List.length_cons, List.length_nil, Nat.zero_add, Nat.reduceAdd, if_true, mn_eq, mx_eq, min_self', max_self']
    rw [fit_beq, fit_beq]
    unfold brL brH
    by_cases i1 : inI (-a)
    · by_cases i2 : inI (-b)
      · have m1 : min (-a) (-b) = -b := by omega
        have m2 : max (-a) (-b) = -a := by omega
        rw [w64_mod i1, w64_mod i2, m1, m2]
        by_cases he : (-b) / 256 = (-a) / 256
        · simp [i1, i2, yes, shr8, shr8', and255, he]
        · simp [i1, i2, yes, shr8, shr8', and255, he, fullL, fullH]
      · simp [i1, i2, yes, fullL, fullH]
    · simp [i1, yes, fullL, fullH]
theorem u12 {a b : Int} {w : World} (ha : inI a) (hb : inI b) (hg : Glob w) : CallSem Tryd.prog 26 (vS sg26.ins [1, 2, a, b]).toArray w fun v w' => v = tupW (vS sg26.outs (un26 1 2 a b)) ∧ Below w.heap.size w w' := by
  refine ent_run unAll (l := [p88]) (ents_cons e88 ents_nil) (is := [1, 2, a, b]) (K := 0) q26x12 rfl rfl (by kernel_rfl) (fun _ h => absurd h List.not_mem_nil) (fun _ h => absurd h List.not_mem_nil) hg ?_
  have g88 : fOf [p88] 88 = add64S := rfl
  have ok := okR2 (a := a) (b := b)
  unfold un26 unL unH unE
  by_cases hc : (b < a ∨ a < 0) ∨ 255 < b
  · have no : ¬ okR 2 a b := fun h => ok.1 h hc
    simp [t26x12, T.den, B.den, A.den, E.den, Cm.den, hc, no]
  · have yes : okR 2 a b := ok.2 hc
    have hab : a ≤ b := yes.2
    have c1 : (if IntKind.i64.signed = true then (-1 : Int) else IntKind.i64.max) = -1 := by decide
    have c2 : (if IntKind.u64.signed = true then (-1 : Int) else IntKind.u64.max) = 18446744073709551615 := by decide
    have na := neg_hi ha
    have nb := neg_hi hb
    have hc' : ((decide (b < a) || decide (a < 0) || decide (255 < b)) = false) := by simpa using hc
    simp only [t26x12, T.den, B.den, A.den, E.den, Cm.den, g88, List.map, List.getD_cons_zero, List.getD_cons_succ, List.cons_append, List.nil_append, hc', c1, c2, com64, comU, shr63, wrap64, wrapU, add64_neg, na, nb, neg_lo ha, neg_lo hb, fit_iff, Bool.false_eq_true, if_false, List.length_cons, List.length_nil, Nat.zero_add, Nat.reduceAdd, if_true, mn_eq, mx_eq, min_self', max_self']
    rw [fit_beq, fit_beq]
    unfold brL brH
    by_cases i1 : inI (-a)
    · by_cases i2 : inI (-b)
      · have m1 : min (-a) (-b) = -b := by omega
        have m2 : max (-a) (-b) = -a := by omega
        rw [w64_mod i1, w64_mod i2, m1, m2]
        by_cases he : (-b) / 256 = (-a) / 256
        · simp [i1, i2, yes, shr8, shr8', and255, he]
        · simp [i1, i2, yes, shr8, shr8', and255, he, fullL, fullH]
      · simp [i1, i2, yes, fullL, fullH]
    · simp [i1, yes, fullL, fullH]
theorem u13 {a b : Int} {w : World} (ha : inI a) (hb : inI b) (hg : Glob w) : CallSem Tryd.prog 26 (vS sg26.ins [1, 3, a, b]).toArray w fun v w' => v = tupW (vS sg26.outs (un26 1 3 a b)) ∧ Below w.heap.size w w' := by
  refine ent_run unAll (l := [p88]) (ents_cons e88 ents_nil) (is := [1, 3, a, b]) (K := 0) q26x13 rfl rfl (by kernel_rfl) (fun _ h => absurd h List.not_mem_nil) (fun _ h => absurd h List.not_mem_nil) hg ?_
  have g88 : fOf [p88] 88 = add64S := rfl
  have ok := okR3 (a := a) (b := b)
  unfold un26 unL unH unE
  by_cases hc : (b < a ∨ a < 0) ∨ 1 < b
  · have no : ¬ okR 3 a b := fun h => ok.1 h hc
    simp [t26x13, T.den, B.den, A.den, E.den, Cm.den, hc, no]
  · have yes : okR 3 a b := ok.2 hc
    have hab : a ≤ b := yes.2
    simp [t26x13, T.den, B.den, A.den, E.den, Cm.den, hc, yes]
theorem u21 {a b : Int} {w : World} (ha : inI a) (hb : inI b) (hg : Glob w) : CallSem Tryd.prog 26 (vS sg26.ins [2, 1, a, b]).toArray w fun v w' => v = tupW (vS sg26.outs (un26 2 1 a b)) ∧ Below w.heap.size w w' := by
  refine ent_run unAll (l := [p88]) (ents_cons e88 ents_nil) (is := [2, 1, a, b]) (K := 0) q26x21 rfl rfl (by kernel_rfl) (fun _ h => absurd h List.not_mem_nil) (fun _ h => absurd h List.not_mem_nil) hg ?_
  have g88 : fOf [p88] 88 = add64S := rfl
  have ok := okR1 ha hb
  unfold un26 unL unH unE
  by_cases hc : (b < a ∨ a < -9223372036854775808) ∨ 9223372036854775807 < b
  · have no : ¬ okR 1 a b := fun h => ok.1 h hc
    simp [t26x21, T.den, B.den, A.den, E.den, Cm.den, hc, no]
  · have yes : okR 1 a b := ok.2 hc
    have hab : a ≤ b := yes.2
    simp [t26x21, T.den, B.den, A.den, E.den, Cm.den, hc, yes]
theorem u22 {a b : Int} {w : World} (ha : inI a) (hb : inI b) (hg : Glob w) : CallSem Tryd.prog 26 (vS sg26.ins [2, 2, a, b]).toArray w fun v w' => v = tupW (vS sg26.outs (un26 2 2 a b)) ∧ Below w.heap.size w w' := by
  refine ent_run unAll (l := [p88]) (ents_cons e88 ents_nil) (is := [2, 2, a, b]) (K := 0) q26x22 rfl rfl (by kernel_rfl) (fun _ h => absurd h List.not_mem_nil) (fun _ h => absurd h List.not_mem_nil) hg ?_
  have g88 : fOf [p88] 88 = add64S := rfl
  have ok := okR2 (a := a) (b := b)
  unfold un26 unL unH unE
  by_cases hc : (b < a ∨ a < 0) ∨ 255 < b
  · have no : ¬ okR 2 a b := fun h => ok.1 h hc
    simp [t26x22, T.den, B.den, A.den, E.den, Cm.den, hc, no]
  · have yes : okR 2 a b := ok.2 hc
    have hab : a ≤ b := yes.2
    simp [t26x22, T.den, B.den, A.den, E.den, Cm.den, hc, yes]
theorem u23 {a b : Int} {w : World} (ha : inI a) (hb : inI b) (hg : Glob w) : CallSem Tryd.prog 26 (vS sg26.ins [2, 3, a, b]).toArray w fun v w' => v = tupW (vS sg26.outs (un26 2 3 a b)) ∧ Below w.heap.size w w' := by
  refine ent_run unAll (l := [p88]) (ents_cons e88 ents_nil) (is := [2, 3, a, b]) (K := 0) q26x23 rfl rfl (by kernel_rfl) (fun _ h => absurd h List.not_mem_nil) (fun _ h => absurd h List.not_mem_nil) hg ?_
  have g88 : fOf [p88] 88 = add64S := rfl
  have ok := okR3 (a := a) (b := b)
  unfold un26 unL unH unE
  by_cases hc : (b < a ∨ a < 0) ∨ 1 < b
  · have no : ¬ okR 3 a b := fun h => ok.1 h hc
    simp [t26x23, T.den, B.den, A.den, E.den, Cm.den, hc, no]
  · have yes : okR 3 a b := ok.2 hc
    have hab : a ≤ b := yes.2
    have a1 : w64 (1 - a) = 1 - a := w64_id (by unfold inI; omega)
    have b1 : w64 (1 - b) = 1 - b := w64_id (by unfold inI; omega)
    simp [t26x23, T.den, B.den, A.den, E.den, Cm.den, hc, yes, wrap64, a1, b1]
theorem u31 {a b : Int} {w : World} (ha : inI a) (hb : inI b) (hg : Glob w) : CallSem Tryd.prog 26 (vS sg26.ins [3, 1, a, b]).toArray w fun v w' => v = tupW (vS sg26.outs (un26 3 1 a b)) ∧ Below w.heap.size w w' := by
  refine ent_run unAll (l := [p88]) (ents_cons e88 ents_nil) (is := [3, 1, a, b]) (K := 0) q26x31 rfl rfl (by kernel_rfl) (fun _ h => absurd h List.not_mem_nil) (fun _ h => absurd h List.not_mem_nil) hg ?_
  have g88 : fOf [p88] 88 = add64S := rfl
  have ok := okR1 ha hb
  unfold un26 unL unH unE
  by_cases hc : (b < a ∨ a < -9223372036854775808) ∨ 9223372036854775807 < b
  · have no : ¬ okR 1 a b := fun h => ok.1 h hc
    simp [t26x31, T.den, B.den, A.den, E.den, Cm.den, hc, no]
  · have yes : okR 1 a b := ok.2 hc
    have hab : a ≤ b := yes.2
    have a1 : w64 (-1 - a) = -1 - a := w64_id (by unfold inI at *; omega)
    have b1 : w64 (-1 - b) = -1 - b := w64_id (by unfold inI at *; omega)
    have c1 : IntKind.i64.signed = true := rfl
    simp [t26x31, T.den, B.den, A.den, E.den, Cm.den, hc, yes, wrap64, c1, com64, a1, b1]
theorem u32 {a b : Int} {w : World} (ha : inI a) (hb : inI b) (hg : Glob w) : CallSem Tryd.prog 26 (vS sg26.ins [3, 2, a, b]).toArray w fun v w' => v = tupW (vS sg26.outs (un26 3 2 a b)) ∧ Below w.heap.size w w' := by
  refine ent_run unAll (l := [p88]) (ents_cons e88 ents_nil) (is := [3, 2, a, b]) (K := 0) q26x32 rfl rfl (by kernel_rfl) (fun _ h => absurd h List.not_mem_nil) (fun _ h => absurd h List.not_mem_nil) hg ?_
  have g88 : fOf [p88] 88 = add64S := rfl
  have ok := okR2 (a := a) (b := b)
  unfold un26 unL unH unE
  by_cases hc : (b < a ∨ a < 0) ∨ 255 < b
  · have no : ¬ okR 2 a b := fun h => ok.1 h hc
    simp [t26x32, T.den, B.den, A.den, E.den, Cm.den, hc, no]
  · have yes : okR 2 a b := ok.2 hc
    have hab : a ≤ b := yes.2
    have a1 : w64 (-1 - a) % 256 = 255 - a := by rw [w64_id (by unfold inI; omega)]; omega
    have b1 : w64 (-1 - b) % 256 = 255 - b := by rw [w64_id (by unfold inI; omega)]; omega
    have c1 : IntKind.i64.signed = true := rfl
    simp [t26x32, T.den, B.den, A.den, E.den, Cm.den, hc, yes, wrap64, c1, com64, and255, a1, b1]
theorem u33 {a b : Int} {w : World} (ha : inI a) (hb : inI b) (hg : Glob w) : CallSem Tryd.prog 26 (vS sg26.ins [3, 3, a, b]).toArray w fun v w' => v = tupW (vS sg26.outs (un26 3 3 a b)) ∧ Below w.heap.size w w' := by
  refine ent_run unAll (l := [p88]) (ents_cons e88 ents_nil) (is := [3, 3, a, b]) (K := 0) q26x33 rfl rfl (by kernel_rfl) (fun _ h => absurd h List.not_mem_nil) (fun _ h => absurd h List.not_mem_nil) hg ?_
  have g88 : fOf [p88] 88 = add64S := rfl
  have ok := okR3 (a := a) (b := b)
  unfold un26 unL unH unE
  by_cases hc : (b < a ∨ a < 0) ∨ 1 < b
  · have no : ¬ okR 3 a b := fun h => ok.1 h hc
    simp [t26x33, T.den, B.den, A.den, E.den, Cm.den, hc, no]
  · have yes : okR 3 a b := ok.2 hc
    have hab : a ≤ b := yes.2
    simp [t26x33, T.den, B.den, A.den, E.den, Cm.den, hc, yes]
theorem uy1 {op a b : Int} {w : World} (h1 : op ≠ 1) (h2 : op ≠ 2) (h3 : op ≠ 3) (ha : inI a) (hb : inI b) (hg : Glob w) : CallSem Tryd.prog 26 (vS sg26.ins [op, 1, a, b]).toArray w fun v w' => v = tupW (vS sg26.outs (un26 op 1 a b)) ∧ Below w.heap.size w w' := by
  refine ent_run unAll (l := [p88]) (ents_cons e88 ents_nil) (is := [op, 1, a, b]) (K := 0) q26y1 rfl rfl (by kernel_rfl) (by simp [PcOk, B.den, Cm.den, A.den, h1, h2, h3]) (by simp [B.wf, A.wf, Sh.len, Sh.size, sg26]) hg ?_
  unfold un26 unL unH unE
  have ok := okR1 ha hb
  by_cases hc : (b < a ∨ a < -9223372036854775808) ∨ 9223372036854775807 < b
  · have no : ¬ okR 1 a b := fun h => ok.1 h hc
    simp [t26y1, T.den, B.den, A.den, E.den, Cm.den, hc, no]
  · simp [t26y1, T.den, B.den, A.den, E.den, Cm.den, hc, h1, h2, h3]
theorem uy2 {op a b : Int} {w : World} (h1 : op ≠ 1) (h2 : op ≠ 2) (h3 : op ≠ 3) (ha : inI a) (hb : inI b) (hg : Glob w) : CallSem Tryd.prog 26 (vS sg26.ins [op, 2, a, b]).toArray w fun v w' => v = tupW (vS sg26.outs (un26 op 2 a b)) ∧ Below w.heap.size w w' := by
  refine ent_run unAll (l := [p88]) (ents_cons e88 ents_nil) (is := [op, 2, a, b]) (K := 0) q26y2 rfl rfl (by kernel_rfl) (by simp [PcOk, B.den, Cm.den, A.den, h1, h2, h3]) (by simp [B.wf, A.wf, Sh.len, Sh.size, sg26]) hg ?_
  unfold un26 unL unH unE
  have ok := okR2 (a := a) (b := b)
  by_cases hc : (b < a ∨ a < 0) ∨ 255 < b
  · have no : ¬ okR 2 a b := fun h => ok.1 h hc
    simp [t26y2, T.den, B.den, A.den, E.den, Cm.den, hc, no]
  · simp [t26y2, T.den, B.den, A.den, E.den, Cm.den, hc, h1, h2, h3]
theorem uy3 {op a b : Int} {w : World} (h1 : op ≠ 1) (h2 : op ≠ 2) (h3 : op ≠ 3) (ha : inI a) (hb : inI b) (hg : Glob w) : CallSem Tryd.prog 26 (vS sg26.ins [op, 3, a, b]).toArray w fun v w' => v = tupW (vS sg26.outs (un26 op 3 a b)) ∧ Below w.heap.size w w' := by
  refine ent_run unAll (l := [p88]) (ents_cons e88 ents_nil) (is := [op, 3, a, b]) (K := 0) q26y3 rfl rfl (by kernel_rfl) (by simp [PcOk, B.den, Cm.den, A.den, h1, h2, h3]) (by simp [B.wf, A.wf, Sh.len, Sh.size, sg26]) hg ?_
  unfold un26 unL unH unE
  have ok := okR3 (a := a) (b := b)
  by_cases hc : (b < a ∨ a < 0) ∨ 1 < b
  · have no : ¬ okR 3 a b := fun h => ok.1 h hc
    simp [t26y3, T.den, B.den, A.den, E.den, Cm.den, hc, no]
  · simp [t26y3, T.den, B.den, A.den, E.den, Cm.den, hc, h1, h2, h3]
theorem uz {op k a b : Int} {w : World} (h1 : k ≠ 1) (h2 : k ≠ 2) (h3 : k ≠ 3) (hg : Glob w) : CallSem Tryd.prog 26 (vS sg26.ins [op, k, a, b]).toArray w fun v w' => v = tupW (vS sg26.outs (un26 op k a b)) ∧ Below w.heap.size w w' := by
  refine ent_run unAll (l := [p88]) (ents_cons e88 ents_nil) (is := [op, k, a, b]) (K := 0) q26z rfl rfl (by kernel_rfl) (by simp [PcOk, B.den, Cm.den, A.den, h1, h2, h3]) (by simp [B.wf, A.wf, Sh.len, Sh.size, sg26]) hg ?_
  have no : ¬ okR k a b := by unfold okR; omega
  unfold un26 unL unH unE
  by_cases h : k < 1 ∨ 3 < k
  · simp [t26z, T.den, B.den, A.den, E.den, Cm.den, h, no]
  · have h0 : k = 0 := by omega
    subst h0
    exact absurd (by decide : (0 : Int) < 1 ∨ 3 < (0 : Int)) h
def p26 : Sp := (26, sg26, unaryS)
theorem e26 : Ent p26 := by
  intro args rs w h hl hg
  match args, hl with
  | [op, k, a, b], _ =>
    simp only [p26, unaryS] at h
    split at h
    · rename_i hr
      cases h
      by_cases k1 : k = 1
      · subst k1
        by_cases o1 : op = 1
        · subst o1; exact u11 hr.1 hr.2 hg
        · by_cases o2 : op = 2
          · subst o2; exact u21 hr.1 hr.2 hg
          · by_cases o3 : op = 3
            · subst o3; exact u31 hr.1 hr.2 hg
            · exact uy1 o1 o2 o3 hr.1 hr.2 hg
      · by_cases k2 : k = 2
        · subst k2
          by_cases o1 : op = 1
          · subst o1; exact u12 hr.1 hr.2 hg
          · by_cases o2 : op = 2
            · subst o2; exact u22 hr.1 hr.2 hg
            · by_cases o3 : op = 3
              · subst o3; exact u32 hr.1 hr.2 hg
              · exact uy2 o1 o2 o3 hr.1 hr.2 hg
        · by_cases k3 : k = 3
          · subst k3
            by_cases o1 : op = 1
            · subst o1; exact u13 hr.1 hr.2 hg
            · by_cases o2 : op = 2
              · subst o2; exact u23 hr.1 hr.2 hg
              · by_cases o3 : op = 3
                · subst o3; exact u33 hr.1 hr.2 hg
                · exact uy3 o1 o2 o3 hr.1 hr.2 hg
          · exact uz k1 k2 k3 hg
    · cases h
end Go.SXR

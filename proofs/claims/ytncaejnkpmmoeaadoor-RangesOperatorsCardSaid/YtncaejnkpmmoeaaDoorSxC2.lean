/- RANGES: quotients and remainders of the reference. -/
import Derived.Test.YtncaejnkpmmoeaaDoorSxC1
set_option linter.unusedVariables false
set_option linter.unusedSimpArgs false
namespace Go.SXR
open Go Go.SX Go.Proofs Go.RowKit

def inS : List Int → Option (List Int)
  | [n, a, b] => some [if a ≤ n ∧ n ≤ b then 1 else 0]
  | _ => none
def sg84 : Sig := ⟨[I, (.agg [.int .i64, .int .i64])], [L]⟩
def t84 : T := (.lt (.sel (.and (.not (.cmp .lt (.v 0) (.v 1))) (.not (.cmp .lt (.v 2) (.v 0)))) (.n 1) (.n 0)) (.ret [(.v 3)]))
theorem q84 : sxFunc (Cf [] unAll) 200 84 sg84 = t84 := by kernel_rfl
def p84 : Sp := (84, sg84, inS)
theorem e84 : Ent p84 := ent_of unAll (l := []) ents_nil q84 fun args rs h hl => by
  match args, hl with
  | [n, a, b], _ =>
    simp only [inS] at h
    cases h
    refine ⟨0, ?_⟩
    simp only [t84, T.den, B.den, A.den, E.den, Cm.den, List.map, List.getD_cons_zero, List.getD_cons_succ, List.cons_append, List.nil_append, Bool.or_eq_true, Bool.and_eq_true, Bool.not_eq_true', decide_eq_true_eq, decide_eq_false_iff_not, beq_iff_eq, beq_eq_false_iff_ne, ne_eq]
    repeat' split
    all_goals first | rfl | (exfalso; omega) | (simp only [Option.some.injEq, Prod.mk.injEq, List.cons.injEq, and_true, true_and]; omega)
/-- The corners of a box of divisors. -/
theorem kor {F : Nat → List Int → Option (List Int)} (g47 : F 47 = cornersS) {a b c d : Int} (hr : in4 a b c d) (hab : a ≤ b) (hcd : c ≤ d) (h : 0 < c ∨ d < 0) (hu : ¬ (a = -9223372036854775808 ∧ d = -1)) :
    ∃ L H, F 47 [2, a, b, c, d] = some [L, H, 0] ∧ Ext Int.tdiv (Box a b c d) L H := by
  obtain ⟨ha, hb, hc, hd⟩ := hr
  have hu2 : a = -9223372036854775808 → c ≠ -1 := fun q q' => hu ⟨q, by omega⟩
  have hok : corOk 2 a b c d := ⟨⟨ha, hb, hc, hd⟩, by unfold inI at *; omega⟩
  have e : F 47 [2, a, b, c, d] = some (corR Int.tdiv a b c d) := by rw [g47]; exact if_pos hok
  have i1 := tdiv_in ha (show c ≠ 0 by omega) (by omega)
  have i2 := tdiv_in ha (show d ≠ 0 by omega) (by omega)
  have i3 := tdiv_in hb (show c ≠ 0 by omega) (by unfold inI at *; omega)
  have i4 := tdiv_in hb (show d ≠ 0 by omega) (by unfold inI at *; omega)
  have eo : ov4 (a.tdiv c) (a.tdiv d) (b.tdiv c) (b.tdiv d) = 0 := if_pos ⟨i1, i2, i3, i4⟩
  refine ⟨_, _, ?_, ext_div hab hcd h⟩
  rw [e, corR, eo, w64_id i1, w64_id i2, w64_id i3, w64_id i4]
theorem ad1 {F : Nat → List Int → Option (List Int)} (g83 : F 83 = addS) (n : Int) : F 83 [0, 0, 0, n, 0, 1] = some [n, n, 0] := by rw [g83]; rfl
theorem ad2 {F : Nat → List Int → Option (List Int)} (g83 : F 83 = addS) (lo hi n : Int) : F 83 [lo, hi, 0, n, 0, 0] = some [min lo n, max hi n, 0] := by rw [g83]; rfl
theorem quotR_ext {k a b c d lo hi : Int} (h : Ext Int.tdiv (DivS a b c d) lo hi) (hs : someD b c d) : quotR k a b c d = [lo, hi, 1, trapV c d, undV k a b c d] := by
  unfold quotR trapV undV
  rw [extLo_eq h, extHi_eq h, if_pos hs]
theorem sel_t (c d : Int) : (if trapV c d = 0 then (0 : Int) else 1) = trapV c d := by unfold trapV; split <;> rfl
theorem chain1 {f : Int → Int → Int} {S : Int → Int → Prop} {l h : Int} (e : Ext f S l h) : Ext f S (min l h) (max l h) := by
  have := e.le
  rwa [show min l h = l by omega, show max l h = h by omega]
theorem chain2 {f : Int → Int → Int} {S T U : Int → Int → Prop} {l h l' h' : Int} (e : Ext f S l h) (e' : Ext f T l' h') (hu : ∀ v w, U v w ↔ S v w ∨ T v w) : Ext f U (min (min l l') h') (max (max h l') h') := by
  have h1 := e.le
  have h2 := e'.le
  have := e.union e' hu
  rwa [show min (min l l') h' = min l l' by omega, show max (max h l') h' = max h h' by omega]
def sg48 : Sig := ⟨[I, I, RG, RG], [EFF]⟩
def t48x21 : T := (.call 84 [(.n 0), (.v 4), (.v 5)] 1 (.call 84 [(.n (-9223372036854775808)), (.v 2), (.v 3)] 1 (.br (.not (.cmp .eq (.v 7) (.n 0))) (.call 84 [(.n (-1)), (.v 4), (.v 5)] 1 (.br (.cmp .lt (.v 4) (.n 0)) (.lt (.mn (.v 5) (.n (-1))) (.br (.cmp .lt (.n 0) (.v 5)) (.lt (.mx (.v 4) (.n 1)) (.br (.or (.not (.and (.not (.cmp .eq (.v 7) (.n 0))) (.not (.cmp .eq (.v 8) (.n 0))))) (.cmp .lt (.n 0) (.v 9))) (.call 47 [(.n 2), (.v 2), (.v 3), (.v 4), (.v 9)] 3 (.call 83 [(.n 0), (.n 0), (.n 0), (.v 11), (.n 0), (.n 1)] 3 (.lt (.sel (.not (.cmp .eq (.v 16) (.n 0))) (.n 1) (.n 0)) (.call 83 [(.v 14), (.v 15), (.v 17), (.v 12), (.n 0), (.n 0)] 3 (.call 47 [(.n 2), (.v 2), (.v 3), (.v 10), (.v 5)] 3 (.lt (.sel (.not (.cmp .eq (.v 20) (.n 0))) (.n 1) (.n 0)) (.call 83 [(.v 18), (.v 19), (.v 24), (.v 21), (.n 0), (.n 0)] 3 (.lt (.sel (.not (.cmp .eq (.v 27) (.n 0))) (.n 1) (.n 0)) (.call 83 [(.v 25), (.v 26), (.v 28), (.v 22), (.n 0), (.n 0)] 3 (.lt (.sel (.not (.cmp .eq (.v 6) (.n 0))) (.n 1) (.n 0)) (.lt (.sel (.and (.not (.cmp .eq (.v 7) (.n 0))) (.not (.cmp .eq (.v 8) (.n 0)))) (.n 1) (.n 0)) (.ret [(.v 29), (.v 30), (.n 1), (.v 32), (.v 33)])))))))))))) (.br (.cmp .lt (.v 4) (.n (-1))) (.br (.cmp .lt (.n (-9223372036854775808)) (.v 3)) (.call 47 [(.n 2), (.v 2), (.v 3), (.v 4), (.n (-2))] 3 (.call 83 [(.n 0), (.n 0), (.n 0), (.v 11), (.n 0), (.n 1)] 3 (.lt (.sel (.not (.cmp .eq (.v 16) (.n 0))) (.n 1) (.n 0)) (.call 83 [(.v 14), (.v 15), (.v 17), (.v 12), (.n 0), (.n 0)] 3 (.call 47 [(.n 2), (.n (-9223372036854775807)), (.v 3), (.n (-1)), (.n (-1))] 3 (.lt (.sel (.not (.cmp .eq (.v 20) (.n 0))) (.n 1) (.n 0)) (.call 83 [(.v 18), (.v 19), (.v 24), (.v 21), (.n 0), (.n 0)] 3 (.lt (.sel (.not (.cmp .eq (.v 27) (.n 0))) (.n 1) (.n 0)) (.call 83 [(.v 25), (.v 26), (.v 28), (.v 22), (.n 0), (.n 0)] 3 (.call 47 [(.n 2), (.v 2), (.v 3), (.v 10), (.v 5)] 3 (.lt (.sel (.not (.cmp .eq (.v 31) (.n 0))) (.n 1) (.n 0)) (.call 83 [(.v 29), (.v 30), (.v 35), (.v 32), (.n 0), (.n 0)] 3 (.lt (.sel (.not (.cmp .eq (.v 38) (.n 0))) (.n 1) (.n 0)) (.call 83 [(.v 36), (.v 37), (.v 39), (.v 33), (.n 0), (.n 0)] 3 (.lt (.sel (.not (.cmp .eq (.v 6) (.n 0))) (.n 1) (.n 0)) (.lt (.sel (.and (.not (.cmp .eq (.v 7) (.n 0))) (.not (.cmp .eq (.v 8) (.n 0)))) (.n 1) (.n 0)) (.ret [(.v 40), (.v 41), (.n 1), (.v 43), (.v 44)]))))))))))))))))) (.call 47 [(.n 2), (.v 2), (.v 3), (.v 4), (.n (-2))] 3 (.call 83 [(.n 0), (.n 0), (.n 0), (.v 11), (.n 0), (.n 1)] 3 (.lt (.sel (.not (.cmp .eq (.v 16) (.n 0))) (.n 1) (.n 0)) (.call 83 [(.v 14), (.v 15), (.v 17), (.v 12), (.n 0), (.n 0)] 3 (.call 47 [(.n 2), (.v 2), (.v 3), (.v 10), (.v 5)] 3 (.lt (.sel (.not (.cmp .eq (.v 20) (.n 0))) (.n 1) (.n 0)) (.call 83 [(.v 18), (.v 19), (.v 24), (.v 21), (.n 0), (.n 0)] 3 (.lt (.sel (.not (.cmp .eq (.v 27) (.n 0))) (.n 1) (.n 0)) (.call 83 [(.v 25), (.v 26), (.v 28), (.v 22), (.n 0), (.n 0)] 3 (.lt (.sel (.not (.cmp .eq (.v 6) (.n 0))) (.n 1) (.n 0)) (.lt (.sel (.and (.not (.cmp .eq (.v 7) (.n 0))) (.not (.cmp .eq (.v 8) (.n 0)))) (.n 1) (.n 0)) (.ret [(.v 29), (.v 30), (.n 1), (.v 32), (.v 33)]))))))))))))) (.br (.cmp .lt (.n (-9223372036854775808)) (.v 3)) (.call 47 [(.n 2), (.n (-9223372036854775807)), (.v 3), (.n (-1)), (.n (-1))] 3 (.call 83 [(.n 0), (.n 0), (.n 0), (.v 11), (.n 0), (.n 1)] 3 (.lt (.sel (.not (.cmp .eq (.v 16) (.n 0))) (.n 1) (.n 0)) (.call 83 [(.v 14), (.v 15), (.v 17), (.v 12), (.n 0), (.n 0)] 3 (.call 47 [(.n 2), (.v 2), (.v 3), (.v 10), (.v 5)] 3 (.lt (.sel (.not (.cmp .eq (.v 20) (.n 0))) (.n 1) (.n 0)) (.call 83 [(.v 18), (.v 19), (.v 24), (.v 21), (.n 0), (.n 0)] 3 (.lt (.sel (.not (.cmp .eq (.v 27) (.n 0))) (.n 1) (.n 0)) (.call 83 [(.v 25), (.v 26), (.v 28), (.v 22), (.n 0), (.n 0)] 3 (.lt (.sel (.not (.cmp .eq (.v 6) (.n 0))) (.n 1) (.n 0)) (.lt (.sel (.and (.not (.cmp .eq (.v 7) (.n 0))) (.not (.cmp .eq (.v 8) (.n 0)))) (.n 1) (.n 0)) (.ret [(.v 29), (.v 30), (.n 1), (.v 32), (.v 33)])))))))))))) (.call 47 [(.n 2), (.v 2), (.v 3), (.v 10), (.v 5)] 3 (.call 83 [(.n 0), (.n 0), (.n 0), (.v 11), (.n 0), (.n 1)] 3 (.lt (.sel (.not (.cmp .eq (.v 16) (.n 0))) (.n 1) (.n 0)) (.call 83 [(.v 14), (.v 15), (.v 17), (.v 12), (.n 0), (.n 0)] 3 (.lt (.sel (.not (.cmp .eq (.v 6) (.n 0))) (.n 1) (.n 0)) (.lt (.sel (.and (.not (.cmp .eq (.v 7) (.n 0))) (.not (.cmp .eq (.v 8) (.n 0)))) (.n 1) (.n 0)) (.ret [(.v 18), (.v 19), (.n 1), (.v 21), (.v 22)]))))))))))) (.br (.or (.not (.and (.not (.cmp .eq (.v 7) (.n 0))) (.not (.cmp .eq (.v 8) (.n 0))))) (.cmp .lt (.n 0) (.v 9))) (.call 47 [(.n 2), (.v 2), (.v 3), (.v 4), (.v 9)] 3 (.call 83 [(.n 0), (.n 0), (.n 0), (.v 10), (.n 0), (.n 1)] 3 (.lt (.sel (.not (.cmp .eq (.v 15) (.n 0))) (.n 1) (.n 0)) (.call 83 [(.v 13), (.v 14), (.v 16), (.v 11), (.n 0), (.n 0)] 3 (.lt (.sel (.not (.cmp .eq (.v 6) (.n 0))) (.n 1) (.n 0)) (.lt (.sel (.and (.not (.cmp .eq (.v 7) (.n 0))) (.not (.cmp .eq (.v 8) (.n 0)))) (.n 1) (.n 0)) (.ret [(.v 17), (.v 18), (.n 1), (.v 20), (.v 21)]))))))) (.br (.cmp .lt (.v 4) (.n (-1))) (.br (.cmp .lt (.n (-9223372036854775808)) (.v 3)) (.call 47 [(.n 2), (.v 2), (.v 3), (.v 4), (.n (-2))] 3 (.call 83 [(.n 0), (.n 0), (.n 0), (.v 10), (.n 0), (.n 1)] 3 (.lt (.sel (.not (.cmp .eq (.v 15) (.n 0))) (.n 1) (.n 0)) (.call 83 [(.v 13), (.v 14), (.v 16), (.v 11), (.n 0), (.n 0)] 3 (.call 47 [(.n 2), (.n (-9223372036854775807)), (.v 3), (.n (-1)), (.n (-1))] 3 (.lt (.sel (.not (.cmp .eq (.v 19) (.n 0))) (.n 1) (.n 0)) (.call 83 [(.v 17), (.v 18), (.v 23), (.v 20), (.n 0), (.n 0)] 3 (.lt (.sel (.not (.cmp .eq (.v 26) (.n 0))) (.n 1) (.n 0)) (.call 83 [(.v 24), (.v 25), (.v 27), (.v 21), (.n 0), (.n 0)] 3 (.lt (.sel (.not (.cmp .eq (.v 6) (.n 0))) (.n 1) (.n 0)) (.lt (.sel (.and (.not (.cmp .eq (.v 7) (.n 0))) (.not (.cmp .eq (.v 8) (.n 0)))) (.n 1) (.n 0)) (.ret [(.v 28), (.v 29), (.n 1), (.v 31), (.v 32)])))))))))))) (.call 47 [(.n 2), (.v 2), (.v 3), (.v 4), (.n (-2))] 3 (.call 83 [(.n 0), (.n 0), (.n 0), (.v 10), (.n 0), (.n 1)] 3 (.lt (.sel (.not (.cmp .eq (.v 15) (.n 0))) (.n 1) (.n 0)) (.call 83 [(.v 13), (.v 14), (.v 16), (.v 11), (.n 0), (.n 0)] 3 (.lt (.sel (.not (.cmp .eq (.v 6) (.n 0))) (.n 1) (.n 0)) (.lt (.sel (.and (.not (.cmp .eq (.v 7) (.n 0))) (.not (.cmp .eq (.v 8) (.n 0)))) (.n 1) (.n 0)) (.ret [(.v 17), (.v 18), (.n 1), (.v 20), (.v 21)])))))))) (.br (.cmp .lt (.n (-9223372036854775808)) (.v 3)) (.call 47 [(.n 2), (.n (-9223372036854775807)), (.v 3), (.n (-1)), (.n (-1))] 3 (.call 83 [(.n 0), (.n 0), (.n 0), (.v 10), (.n 0), (.n 1)] 3 (.lt (.sel (.not (.cmp .eq (.v 15) (.n 0))) (.n 1) (.n 0)) (.call 83 [(.v 13), (.v 14), (.v 16), (.v 11), (.n 0), (.n 0)] 3 (.lt (.sel (.not (.cmp .eq (.v 6) (.n 0))) (.n 1) (.n 0)) (.lt (.sel (.and (.not (.cmp .eq (.v 7) (.n 0))) (.not (.cmp .eq (.v 8) (.n 0)))) (.n 1) (.n 0)) (.ret [(.v 17), (.v 18), (.n 1), (.v 20), (.v 21)]))))))) (.lt (.sel (.not (.cmp .eq (.v 6) (.n 0))) (.n 1) (.n 0)) (.lt (.sel (.and (.not (.cmp .eq (.v 7) (.n 0))) (.not (.cmp .eq (.v 8) (.n 0)))) (.n 1) (.n 0)) (.ret [(.n 0), (.n 0), (.n 0), (.v 10), (.v 11)])))))))) (.br (.cmp .lt (.n 0) (.v 5)) (.lt (.mx (.v 4) (.n 1)) (.call 47 [(.n 2), (.v 2), (.v 3), (.v 9), (.v 5)] 3 (.call 83 [(.n 0), (.n 0), (.n 0), (.v 10), (.n 0), (.n 1)] 3 (.lt (.sel (.not (.cmp .eq (.v 15) (.n 0))) (.n 1) (.n 0)) (.call 83 [(.v 13), (.v 14), (.v 16), (.v 11), (.n 0), (.n 0)] 3 (.lt (.sel (.not (.cmp .eq (.v 6) (.n 0))) (.n 1) (.n 0)) (.lt (.sel (.and (.not (.cmp .eq (.v 7) (.n 0))) (.not (.cmp .eq (.v 8) (.n 0)))) (.n 1) (.n 0)) (.ret [(.v 17), (.v 18), (.n 1), (.v 20), (.v 21)])))))))) (.lt (.sel (.not (.cmp .eq (.v 6) (.n 0))) (.n 1) (.n 0)) (.lt (.sel (.and (.not (.cmp .eq (.v 7) (.n 0))) (.not (.cmp .eq (.v 8) (.n 0)))) (.n 1) (.n 0)) (.ret [(.n 0), (.n 0), (.n 0), (.v 9), (.v 10)])))))) (.br (.cmp .lt (.v 4) (.n 0)) (.lt (.mn (.v 5) (.n (-1))) (.br (.cmp .lt (.n 0) (.v 5)) (.lt (.mx (.v 4) (.n 1)) (.call 47 [(.n 2), (.v 2), (.v 3), (.v 4), (.v 8)] 3 (.call 83 [(.n 0), (.n 0), (.n 0), (.v 10), (.n 0), (.n 1)] 3 (.lt (.sel (.not (.cmp .eq (.v 15) (.n 0))) (.n 1) (.n 0)) (.call 83 [(.v 13), (.v 14), (.v 16), (.v 11), (.n 0), (.n 0)] 3 (.call 47 [(.n 2), (.v 2), (.v 3), (.v 9), (.v 5)] 3 (.lt (.sel (.not (.cmp .eq (.v 19) (.n 0))) (.n 1) (.n 0)) (.call 83 [(.v 17), (.v 18), (.v 23), (.v 20), (.n 0), (.n 0)] 3 (.lt (.sel (.not (.cmp .eq (.v 26) (.n 0))) (.n 1) (.n 0)) (.call 83 [(.v 24), (.v 25), (.v 27), (.v 21), (.n 0), (.n 0)] 3 (.lt (.sel (.not (.cmp .eq (.v 6) (.n 0))) (.n 1) (.n 0)) (.ret [(.v 28), (.v 29), (.n 1), (.v 31), (.n 0)])))))))))))) (.call 47 [(.n 2), (.v 2), (.v 3), (.v 4), (.v 8)] 3 (.call 83 [(.n 0), (.n 0), (.n 0), (.v 9), (.n 0), (.n 1)] 3 (.lt (.sel (.not (.cmp .eq (.v 14) (.n 0))) (.n 1) (.n 0)) (.call 83 [(.v 12), (.v 13), (.v 15), (.v 10), (.n 0), (.n 0)] 3 (.lt (.sel (.not (.cmp .eq (.v 6) (.n 0))) (.n 1) (.n 0)) (.ret [(.v 16), (.v 17), (.n 1), (.v 19), (.n 0)])))))))) (.br (.cmp .lt (.n 0) (.v 5)) (.lt (.mx (.v 4) (.n 1)) (.call 47 [(.n 2), (.v 2), (.v 3), (.v 8), (.v 5)] 3 (.call 83 [(.n 0), (.n 0), (.n 0), (.v 9), (.n 0), (.n 1)] 3 (.lt (.sel (.not (.cmp .eq (.v 14) (.n 0))) (.n 1) (.n 0)) (.call 83 [(.v 12), (.v 13), (.v 15), (.v 10), (.n 0), (.n 0)] 3 (.lt (.sel (.not (.cmp .eq (.v 6) (.n 0))) (.n 1) (.n 0)) (.ret [(.v 16), (.v 17), (.n 1), (.v 19), (.n 0)]))))))) (.lt (.sel (.not (.cmp .eq (.v 6) (.n 0))) (.n 1) (.n 0)) (.ret [(.n 0), (.n 0), (.n 0), (.v 8), (.n 0)])))))))
theorem q48x21 : sxRun (Cf [p47, p83, p84, p104] unAll) 200 48 sg48 ((mkS 0 sg48.ins).map (subst [(0, 2), (1, 1)])) [] = t48x21 := by kernel_rfl
def t48x22 : T := (.call 84 [(.n 0), (.v 4), (.v 5)] 1 (.br (.cmp .lt (.v 4) (.n 0)) (.lt (.mn (.v 5) (.n (-1))) (.br (.cmp .lt (.n 0) (.v 5)) (.lt (.mx (.v 4) (.n 1)) (.call 47 [(.n 2), (.v 2), (.v 3), (.v 4), (.v 7)] 3 (.call 83 [(.n 0), (.n 0), (.n 0), (.v 9), (.n 0), (.n 1)] 3 (.lt (.sel (.not (.cmp .eq (.v 14) (.n 0))) (.n 1) (.n 0)) (.call 83 [(.v 12), (.v 13), (.v 15), (.v 10), (.n 0), (.n 0)] 3 (.call 47 [(.n 2), (.v 2), (.v 3), (.v 8), (.v 5)] 3 (.lt (.sel (.not (.cmp .eq (.v 18) (.n 0))) (.n 1) (.n 0)) (.call 83 [(.v 16), (.v 17), (.v 22), (.v 19), (.n 0), (.n 0)] 3 (.lt (.sel (.not (.cmp .eq (.v 25) (.n 0))) (.n 1) (.n 0)) (.call 83 [(.v 23), (.v 24), (.v 26), (.v 20), (.n 0), (.n 0)] 3 (.lt (.sel (.not (.cmp .eq (.v 6) (.n 0))) (.n 1) (.n 0)) (.ret [(.v 27), (.v 28), (.n 1), (.v 30), (.n 0)])))))))))))) (.call 47 [(.n 2), (.v 2), (.v 3), (.v 4), (.v 7)] 3 (.call 83 [(.n 0), (.n 0), (.n 0), (.v 8), (.n 0), (.n 1)] 3 (.lt (.sel (.not (.cmp .eq (.v 13) (.n 0))) (.n 1) (.n 0)) (.call 83 [(.v 11), (.v 12), (.v 14), (.v 9), (.n 0), (.n 0)] 3 (.lt (.sel (.not (.cmp .eq (.v 6) (.n 0))) (.n 1) (.n 0)) (.ret [(.v 15), (.v 16), (.n 1), (.v 18), (.n 0)])))))))) (.br (.cmp .lt (.n 0) (.v 5)) (.lt (.mx (.v 4) (.n 1)) (.call 47 [(.n 2), (.v 2), (.v 3), (.v 7), (.v 5)] 3 (.call 83 [(.n 0), (.n 0), (.n 0), (.v 8), (.n 0), (.n 1)] 3 (.lt (.sel (.not (.cmp .eq (.v 13) (.n 0))) (.n 1) (.n 0)) (.call 83 [(.v 11), (.v 12), (.v 14), (.v 9), (.n 0), (.n 0)] 3 (.lt (.sel (.not (.cmp .eq (.v 6) (.n 0))) (.n 1) (.n 0)) (.ret [(.v 15), (.v 16), (.n 1), (.v 18), (.n 0)]))))))) (.lt (.sel (.not (.cmp .eq (.v 6) (.n 0))) (.n 1) (.n 0)) (.ret [(.n 0), (.n 0), (.n 0), (.v 7), (.n 0)])))))
theorem q48x22 : sxRun (Cf [p47, p83, p84, p104] unAll) 200 48 sg48 ((mkS 0 sg48.ins).map (subst [(0, 2), (1, 2)])) [] = t48x22 := by kernel_rfl
def t48x31 : T := (.call 84 [(.n 0), (.v 4), (.v 5)] 1 (.call 84 [(.n (-9223372036854775808)), (.v 2), (.v 3)] 1 (.br (.not (.cmp .eq (.v 7) (.n 0))) (.call 84 [(.n (-1)), (.v 4), (.v 5)] 1 (.br (.cmp .lt (.v 4) (.n 0)) (.lt (.mn (.v 5) (.n (-1))) (.br (.cmp .lt (.n 0) (.v 5)) (.lt (.mx (.v 4) (.n 1)) (.br (.or (.not (.and (.not (.cmp .eq (.v 7) (.n 0))) (.not (.cmp .eq (.v 8) (.n 0))))) (.cmp .lt (.n 0) (.v 9))) (.call 104 [(.v 4)] 1 (.call 104 [(.v 4)] 1 (.call 104 [(.v 4)] 1 (.call 104 [(.v 9)] 1 (.lt (.mn (.v 11) (.v 13)) (.lt (.mn (.v 15) (.v 14)) (.call 104 [(.v 4)] 1 (.call 104 [(.v 9)] 1 (.lt (.mx (.v 12) (.v 17)) (.lt (.mx (.v 19) (.v 18)) (.call 104 [(.v 10)] 1 (.call 104 [(.v 5)] 1 (.lt (.mn (.v 16) (.v 21)) (.lt (.mn (.v 23) (.v 22)) (.call 104 [(.v 10)] 1 (.call 104 [(.v 5)] 1 (.lt (.mx (.v 20) (.v 25)) (.lt (.mx (.v 27) (.v 26)) (.call 104 [(.v 2)] 1 (.br (.cmp .lt (.v 29) (.v 24)) (.call 104 [(.v 3)] 1 (.br (.and (.cmp .lt (.v 29) (.v 24)) (.cmp .lt (.v 30) (.v 24))) (.lt (.sel (.not (.cmp .eq (.v 6) (.n 0))) (.n 1) (.n 0)) (.lt (.sel (.and (.not (.cmp .eq (.v 7) (.n 0))) (.not (.cmp .eq (.v 8) (.n 0)))) (.n 1) (.n 0)) (.ret [(.v 2), (.v 3), (.n 1), (.v 31), (.v 32)]))) (.lt (.sub .u64 (.v 28) (.n 1)) (.lt (.wrap .i64 (.v 31)) (.br (.cmp .lt (.v 2) (.n 0)) (.lt (.neg .i64 (.v 32)) (.lt (.mx (.v 2) (.v 33)) (.br (.cmp .lt (.n 0) (.v 3)) (.lt (.mn (.v 3) (.v 32)) (.lt (.sel (.not (.cmp .eq (.v 6) (.n 0))) (.n 1) (.n 0)) (.lt (.sel (.and (.not (.cmp .eq (.v 7) (.n 0))) (.not (.cmp .eq (.v 8) (.n 0)))) (.n 1) (.n 0)) (.ret [(.v 34), (.v 35), (.n 1), (.v 36), (.v 37)])))) (.lt (.sel (.not (.cmp .eq (.v 6) (.n 0))) (.n 1) (.n 0)) (.lt (.sel (.and (.not (.cmp .eq (.v 7) (.n 0))) (.not (.cmp .eq (.v 8) (.n 0)))) (.n 1) (.n 0)) (.ret [(.v 34), (.n 0), (.n 1), (.v 35), (.v 36)])))))) (.br (.cmp .lt (.n 0) (.v 3)) (.lt (.mn (.v 3) (.v 32)) (.lt (.sel (.not (.cmp .eq (.v 6) (.n 0))) (.n 1) (.n 0)) (.lt (.sel (.and (.not (.cmp .eq (.v 7) (.n 0))) (.not (.cmp .eq (.v 8) (.n 0)))) (.n 1) (.n 0)) (.ret [(.n 0), (.v 33), (.n 1), (.v 34), (.v 35)])))) (.lt (.sel (.not (.cmp .eq (.v 6) (.n 0))) (.n 1) (.n 0)) (.lt (.sel (.and (.not (.cmp .eq (.v 7) (.n 0))) (.not (.cmp .eq (.v 8) (.n 0)))) (.n 1) (.n 0)) (.ret [(.n 0), (.n 0), (.n 1), (.v 33), (.v 34)]))))))))) (.lt (.sub .u64 (.v 28) (.n 1)) (.lt (.wrap .i64 (.v 30)) (.br (.cmp .lt (.v 2) (.n 0)) (.lt (.neg .i64 (.v 31)) (.lt (.mx (.v 2) (.v 32)) (.br (.cmp .lt (.n 0) (.v 3)) (.lt (.mn (.v 3) (.v 31)) (.lt (.sel (.not (.cmp .eq (.v 6) (.n 0))) (.n 1) (.n 0)) (.lt (.sel (.and (.not (.cmp .eq (.v 7) (.n 0))) (.not (.cmp .eq (.v 8) (.n 0)))) (.n 1) (.n 0)) (.ret [(.v 33), (.v 34), (.n 1), (.v 35), (.v 36)])))) (.lt (.sel (.not (.cmp .eq (.v 6) (.n 0))) (.n 1) (.n 0)) (.lt (.sel (.and (.not (.cmp .eq (.v 7) (.n 0))) (.not (.cmp .eq (.v 8) (.n 0)))) (.n 1) (.n 0)) (.ret [(.v 33), (.n 0), (.n 1), (.v 34), (.v 35)])))))) (.br (.cmp .lt (.n 0) (.v 3)) (.lt (.mn (.v 3) (.v 31)) (.lt (.sel (.not (.cmp .eq (.v 6) (.n 0))) (.n 1) (.n 0)) (.lt (.sel (.and (.not (.cmp .eq (.v 7) (.n 0))) (.not (.cmp .eq (.v 8) (.n 0)))) (.n 1) (.n 0)) (.ret [(.n 0), (.v 32), (.n 1), (.v 33), (.v 34)])))) (.lt (.sel (.not (.cmp .eq (.v 6) (.n 0))) (.n 1) (.n 0)) (.lt (.sel (.and (.not (.cmp .eq (.v 7) (.n 0))) (.not (.cmp .eq (.v 8) (.n 0)))) (.n 1) (.n 0)) (.ret [(.n 0), (.n 0), (.n 1), (.v 32), (.v 33)]))))))))))))))))))))))))))) (.br (.cmp .lt (.v 4) (.n (-1))) (.br (.cmp .lt (.n (-9223372036854775808)) (.v 3)) (.call 104 [(.v 4)] 1 (.call 104 [(.v 4)] 1 (.call 104 [(.v 4)] 1 (.call 104 [(.v 9)] 1 (.lt (.mn (.v 11) (.v 13)) (.lt (.mn (.v 15) (.v 14)) (.call 104 [(.v 4)] 1 (.call 104 [(.v 9)] 1 (.lt (.mx (.v 12) (.v 17)) (.lt (.mx (.v 19) (.v 18)) (.call 104 [(.v 10)] 1 (.call 104 [(.v 5)] 1 (.lt (.mn (.v 16) (.v 21)) (.lt (.mn (.v 23) (.v 22)) (.call 104 [(.v 10)] 1 (.call 104 [(.v 5)] 1 (.lt (.mx (.v 20) (.v 25)) (.lt (.mx (.v 27) (.v 26)) (.call 104 [(.v 2)] 1 (.br (.cmp .lt (.v 29) (.v 24)) (.call 104 [(.v 3)] 1 (.br (.and (.cmp .lt (.v 29) (.v 24)) (.cmp .lt (.v 30) (.v 24))) (.lt (.sel (.not (.cmp .eq (.v 6) (.n 0))) (.n 1) (.n 0)) (.lt (.sel (.and (.not (.cmp .eq (.v 7) (.n 0))) (.not (.cmp .eq (.v 8) (.n 0)))) (.n 1) (.n 0)) (.ret [(.v 2), (.v 3), (.n 1), (.v 31), (.v 32)]))) (.lt (.sub .u64 (.v 28) (.n 1)) (.lt (.wrap .i64 (.v 31)) (.br (.cmp .lt (.v 2) (.n 0)) (.lt (.neg .i64 (.v 32)) (.lt (.mx (.v 2) (.v 33)) (.br (.cmp .lt (.n 0) (.v 3)) (.lt (.mn (.v 3) (.v 32)) (.lt (.sel (.not (.cmp .eq (.v 6) (.n 0))) (.n 1) (.n 0)) (.lt (.sel (.and (.not (.cmp .eq (.v 7) (.n 0))) (.not (.cmp .eq (.v 8) (.n 0)))) (.n 1) (.n 0)) (.ret [(.v 34), (.v 35), (.n 1), (.v 36), (.v 37)])))) (.lt (.sel (.not (.cmp .eq (.v 6) (.n 0))) (.n 1) (.n 0)) (.lt (.sel (.and (.not (.cmp .eq (.v 7) (.n 0))) (.not (.cmp .eq (.v 8) (.n 0)))) (.n 1) (.n 0)) (.ret [(.v 34), (.n 0), (.n 1), (.v 35), (.v 36)])))))) (.br (.cmp .lt (.n 0) (.v 3)) (.lt (.mn (.v 3) (.v 32)) (.lt (.sel (.not (.cmp .eq (.v 6) (.n 0))) (.n 1) (.n 0)) (.lt (.sel (.and (.not (.cmp .eq (.v 7) (.n 0))) (.not (.cmp .eq (.v 8) (.n 0)))) (.n 1) (.n 0)) (.ret [(.n 0), (.v 33), (.n 1), (.v 34), (.v 35)])))) (.lt (.sel (.not (.cmp .eq (.v 6) (.n 0))) (.n 1) (.n 0)) (.lt (.sel (.and (.not (.cmp .eq (.v 7) (.n 0))) (.not (.cmp .eq (.v 8) (.n 0)))) (.n 1) (.n 0)) (.ret [(.n 0), (.n 0), (.n 1), (.v 33), (.v 34)]))))))))) (.lt (.sub .u64 (.v 28) (.n 1)) (.lt (.wrap .i64 (.v 30)) (.br (.cmp .lt (.v 2) (.n 0)) (.lt (.neg .i64 (.v 31)) (.lt (.mx (.v 2) (.v 32)) (.br (.cmp .lt (.n 0) (.v 3)) (.lt (.mn (.v 3) (.v 31)) (.lt (.sel (.not (.cmp .eq (.v 6) (.n 0))) (.n 1) (.n 0)) (.lt (.sel (.and (.not (.cmp .eq (.v 7) (.n 0))) (.not (.cmp .eq (.v 8) (.n 0)))) (.n 1) (.n 0)) (.ret [(.v 33), (.v 34), (.n 1), (.v 35), (.v 36)])))) (.lt (.sel (.not (.cmp .eq (.v 6) (.n 0))) (.n 1) (.n 0)) (.lt (.sel (.and (.not (.cmp .eq (.v 7) (.n 0))) (.not (.cmp .eq (.v 8) (.n 0)))) (.n 1) (.n 0)) (.ret [(.v 33), (.n 0), (.n 1), (.v 34), (.v 35)])))))) (.br (.cmp .lt (.n 0) (.v 3)) (.lt (.mn (.v 3) (.v 31)) (.lt (.sel (.not (.cmp .eq (.v 6) (.n 0))) (.n 1) (.n 0)) (.lt (.sel (.and (.not (.cmp .eq (.v 7) (.n 0))) (.not (.cmp .eq (.v 8) (.n 0)))) (.n 1) (.n 0)) (.ret [(.n 0), (.v 32), (.n 1), (.v 33), (.v 34)])))) (.lt (.sel (.not (.cmp .eq (.v 6) (.n 0))) (.n 1) (.n 0)) (.lt (.sel (.and (.not (.cmp .eq (.v 7) (.n 0))) (.not (.cmp .eq (.v 8) (.n 0)))) (.n 1) (.n 0)) (.ret [(.n 0), (.n 0), (.n 1), (.v 32), (.v 33)]))))))))))))))))))))))))))) (.call 104 [(.v 4)] 1 (.call 104 [(.v 4)] 1 (.call 104 [(.v 4)] 1 (.call 104 [(.v 9)] 1 (.lt (.mn (.v 11) (.v 13)) (.lt (.mn (.v 15) (.v 14)) (.call 104 [(.v 4)] 1 (.call 104 [(.v 9)] 1 (.lt (.mx (.v 12) (.v 17)) (.lt (.mx (.v 19) (.v 18)) (.call 104 [(.v 10)] 1 (.call 104 [(.v 5)] 1 (.lt (.mn (.v 16) (.v 21)) (.lt (.mn (.v 23) (.v 22)) (.call 104 [(.v 10)] 1 (.call 104 [(.v 5)] 1 (.lt (.mx (.v 20) (.v 25)) (.lt (.mx (.v 27) (.v 26)) (.call 104 [(.v 2)] 1 (.br (.cmp .lt (.v 29) (.v 24)) (.call 104 [(.v 3)] 1 (.br (.and (.cmp .lt (.v 29) (.v 24)) (.cmp .lt (.v 30) (.v 24))) (.lt (.sel (.not (.cmp .eq (.v 6) (.n 0))) (.n 1) (.n 0)) (.lt (.sel (.and (.not (.cmp .eq (.v 7) (.n 0))) (.not (.cmp .eq (.v 8) (.n 0)))) (.n 1) (.n 0)) (.ret [(.v 2), (.v 3), (.n 1), (.v 31), (.v 32)]))) (.lt (.sub .u64 (.v 28) (.n 1)) (.lt (.wrap .i64 (.v 31)) (.br (.cmp .lt (.v 2) (.n 0)) (.lt (.neg .i64 (.v 32)) (.lt (.mx (.v 2) (.v 33)) (.br (.cmp .lt (.n 0) (.v 3)) (.lt (.mn (.v 3) (.v 32)) (.lt (.sel (.not (.cmp .eq (.v 6) (.n 0))) (.n 1) (.n 0)) (.lt (.sel (.and (.not (.cmp .eq (.v 7) (.n 0))) (.not (.cmp .eq (.v 8) (.n 0)))) (.n 1) (.n 0)) (.ret [(.v 34), (.v 35), (.n 1), (.v 36), (.v 37)])))) (.lt (.sel (.not (.cmp .eq (.v 6) (.n 0))) (.n 1) (.n 0)) (.lt (.sel (.and (.not (.cmp .eq (.v 7) (.n 0))) (.not (.cmp .eq (.v 8) (.n 0)))) (.n 1) (.n 0)) (.ret [(.v 34), (.n 0), (.n 1), (.v 35), (.v 36)])))))) (.br (.cmp .lt (.n 0) (.v 3)) (.lt (.mn (.v 3) (.v 32)) (.lt (.sel (.not (.cmp .eq (.v 6) (.n 0))) (.n 1) (.n 0)) (.lt (.sel (.and (.not (.cmp .eq (.v 7) (.n 0))) (.not (.cmp .eq (.v 8) (.n 0)))) (.n 1) (.n 0)) (.ret [(.n 0), (.v 33), (.n 1), (.v 34), (.v 35)])))) (.lt (.sel (.not (.cmp .eq (.v 6) (.n 0))) (.n 1) (.n 0)) (.lt (.sel (.and (.not (.cmp .eq (.v 7) (.n 0))) (.not (.cmp .eq (.v 8) (.n 0)))) (.n 1) (.n 0)) (.ret [(.n 0), (.n 0), (.n 1), (.v 33), (.v 34)]))))))))) (.lt (.sub .u64 (.v 28) (.n 1)) (.lt (.wrap .i64 (.v 30)) (.br (.cmp .lt (.v 2) (.n 0)) (.lt (.neg .i64 (.v 31)) (.lt (.mx (.v 2) (.v 32)) (.br (.cmp .lt (.n 0) (.v 3)) (.lt (.mn (.v 3) (.v 31)) (.lt (.sel (.not (.cmp .eq (.v 6) (.n 0))) (.n 1) (.n 0)) (.lt (.sel (.and (.not (.cmp .eq (.v 7) (.n 0))) (.not (.cmp .eq (.v 8) (.n 0)))) (.n 1) (.n 0)) (.ret [(.v 33), (.v 34), (.n 1), (.v 35), (.v 36)])))) (.lt (.sel (.not (.cmp .eq (.v 6) (.n 0))) (.n 1) (.n 0)) (.lt (.sel (.and (.not (.cmp .eq (.v 7) (.n 0))) (.not (.cmp .eq (.v 8) (.n 0)))) (.n 1) (.n 0)) (.ret [(.v 33), (.n 0), (.n 1), (.v 34), (.v 35)])))))) (.br (.cmp .lt (.n 0) (.v 3)) (.lt (.mn (.v 3) (.v 31)) (.lt (.sel (.not (.cmp .eq (.v 6) (.n 0))) (.n 1) (.n 0)) (.lt (.sel (.and (.not (.cmp .eq (.v 7) (.n 0))) (.not (.cmp .eq (.v 8) (.n 0)))) (.n 1) (.n 0)) (.ret [(.n 0), (.v 32), (.n 1), (.v 33), (.v 34)])))) (.lt (.sel (.not (.cmp .eq (.v 6) (.n 0))) (.n 1) (.n 0)) (.lt (.sel (.and (.not (.cmp .eq (.v 7) (.n 0))) (.not (.cmp .eq (.v 8) (.n 0)))) (.n 1) (.n 0)) (.ret [(.n 0), (.n 0), (.n 1), (.v 32), (.v 33)])))))))))))))))))))))))))))) (.br (.cmp .lt (.n (-9223372036854775808)) (.v 3)) (.call 104 [(.v 4)] 1 (.call 104 [(.v 4)] 1 (.call 104 [(.v 4)] 1 (.call 104 [(.v 9)] 1 (.lt (.mn (.v 11) (.v 13)) (.lt (.mn (.v 15) (.v 14)) (.call 104 [(.v 4)] 1 (.call 104 [(.v 9)] 1 (.lt (.mx (.v 12) (.v 17)) (.lt (.mx (.v 19) (.v 18)) (.call 104 [(.v 10)] 1 (.call 104 [(.v 5)] 1 (.lt (.mn (.v 16) (.v 21)) (.lt (.mn (.v 23) (.v 22)) (.call 104 [(.v 10)] 1 (.call 104 [(.v 5)] 1 (.lt (.mx (.v 20) (.v 25)) (.lt (.mx (.v 27) (.v 26)) (.call 104 [(.v 2)] 1 (.br (.cmp .lt (.v 29) (.v 24)) (.call 104 [(.v 3)] 1 (.br (.and (.cmp .lt (.v 29) (.v 24)) (.cmp .lt (.v 30) (.v 24))) (.lt (.sel (.not (.cmp .eq (.v 6) (.n 0))) (.n 1) (.n 0)) (.lt (.sel (.and (.not (.cmp .eq (.v 7) (.n 0))) (.not (.cmp .eq (.v 8) (.n 0)))) (.n 1) (.n 0)) (.ret [(.v 2), (.v 3), (.n 1), (.v 31), (.v 32)]))) (.lt (.sub .u64 (.v 28) (.n 1)) (.lt (.wrap .i64 (.v 31)) (.br (.cmp .lt (.v 2) (.n 0)) (.lt (.neg .i64 (.v 32)) (.lt (.mx (.v 2) (.v 33)) (.br (.cmp .lt (.n 0) (.v 3)) (.lt (.mn (.v 3) (.v 32)) (.lt (.sel (.not (.cmp .eq (.v 6) (.n 0))) (.n 1) (.n 0)) (.lt (.sel (.and (.not (.cmp .eq (.v 7) (.n 0))) (.not (.cmp .eq (.v 8) (.n 0)))) (.n 1) (.n 0)) (.ret [(.v 34), (.v 35), (.n 1), (.v 36), (.v 37)])))) (.lt (.sel (.not (.cmp .eq (.v 6) (.n 0))) (.n 1) (.n 0)) (.lt (.sel (.and (.not (.cmp .eq (.v 7) (.n 0))) (.not (.cmp .eq (.v 8) (.n 0)))) (.n 1) (.n 0)) (.ret [(.v 34), (.n 0), (.n 1), (.v 35), (.v 36)])))))) (.br (.cmp .lt (.n 0) (.v 3)) (.lt (.mn (.v 3) (.v 32)) (.lt (.sel (.not (.cmp .eq (.v 6) (.n 0))) (.n 1) (.n 0)) (.lt (.sel (.and (.not (.cmp .eq (.v 7) (.n 0))) (.not (.cmp .eq (.v 8) (.n 0)))) (.n 1) (.n 0)) (.ret [(.n 0), (.v 33), (.n 1), (.v 34), (.v 35)])))) (.lt (.sel (.not (.cmp .eq (.v 6) (.n 0))) (.n 1) (.n 0)) (.lt (.sel (.and (.not (.cmp .eq (.v 7) (.n 0))) (.not (.cmp .eq (.v 8) (.n 0)))) (.n 1) (.n 0)) (.ret [(.n 0), (.n 0), (.n 1), (.v 33), (.v 34)]))))))))) (.lt (.sub .u64 (.v 28) (.n 1)) (.lt (.wrap .i64 (.v 30)) (.br (.cmp .lt (.v 2) (.n 0)) (.lt (.neg .i64 (.v 31)) (.lt (.mx (.v 2) (.v 32)) (.br (.cmp .lt (.n 0) (.v 3)) (.lt (.mn (.v 3) (.v 31)) (.lt (.sel (.not (.cmp .eq (.v 6) (.n 0))) (.n 1) (.n 0)) (.lt (.sel (.and (.not (.cmp .eq (.v 7) (.n 0))) (.not (.cmp .eq (.v 8) (.n 0)))) (.n 1) (.n 0)) (.ret [(.v 33), (.v 34), (.n 1), (.v 35), (.v 36)])))) (.lt (.sel (.not (.cmp .eq (.v 6) (.n 0))) (.n 1) (.n 0)) (.lt (.sel (.and (.not (.cmp .eq (.v 7) (.n 0))) (.not (.cmp .eq (.v 8) (.n 0)))) (.n 1) (.n 0)) (.ret [(.v 33), (.n 0), (.n 1), (.v 34), (.v 35)])))))) (.br (.cmp .lt (.n 0) (.v 3)) (.lt (.mn (.v 3) (.v 31)) (.lt (.sel (.not (.cmp .eq (.v 6) (.n 0))) (.n 1) (.n 0)) (.lt (.sel (.and (.not (.cmp .eq (.v 7) (.n 0))) (.not (.cmp .eq (.v 8) (.n 0)))) (.n 1) (.n 0)) (.ret [(.n 0), (.v 32), (.n 1), (.v 33), (.v 34)])))) (.lt (.sel (.not (.cmp .eq (.v 6) (.n 0))) (.n 1) (.n 0)) (.lt (.sel (.and (.not (.cmp .eq (.v 7) (.n 0))) (.not (.cmp .eq (.v 8) (.n 0)))) (.n 1) (.n 0)) (.ret [(.n 0), (.n 0), (.n 1), (.v 32), (.v 33)]))))))))))))))))))))))))))) (.call 104 [(.v 4)] 1 (.call 104 [(.v 4)] 1 (.call 104 [(.v 4)] 1 (.call 104 [(.v 9)] 1 (.lt (.mn (.v 11) (.v 13)) (.lt (.mn (.v 15) (.v 14)) (.call 104 [(.v 4)] 1 (.call 104 [(.v 9)] 1 (.lt (.mx (.v 12) (.v 17)) (.lt (.mx (.v 19) (.v 18)) (.call 104 [(.v 10)] 1 (.call 104 [(.v 5)] 1 (.lt (.mn (.v 16) (.v 21)) (.lt (.mn (.v 23) (.v 22)) (.call 104 [(.v 10)] 1 (.call 104 [(.v 5)] 1 (.lt (.mx (.v 20) (.v 25)) (.lt (.mx (.v 27) (.v 26)) (.call 104 [(.v 2)] 1 (.br (.cmp .lt (.v 29) (.v 24)) (.call 104 [(.v 3)] 1 (.br (.and (.cmp .lt (.v 29) (.v 24)) (.cmp .lt (.v 30) (.v 24))) (.lt (.sel (.not (.cmp .eq (.v 6) (.n 0))) (.n 1) (.n 0)) (.lt (.sel (.and (.not (.cmp .eq (.v 7) (.n 0))) (.not (.cmp .eq (.v 8) (.n 0)))) (.n 1) (.n 0)) (.ret [(.v 2), (.v 3), (.n 1), (.v 31), (.v 32)]))) (.lt (.sub .u64 (.v 28) (.n 1)) (.lt (.wrap .i64 (.v 31)) (.br (.cmp .lt (.v 2) (.n 0)) (.lt (.neg .i64 (.v 32)) (.lt (.mx (.v 2) (.v 33)) (.br (.cmp .lt (.n 0) (.v 3)) (.lt (.mn (.v 3) (.v 32)) (.lt (.sel (.not (.cmp .eq (.v 6) (.n 0))) (.n 1) (.n 0)) (.lt (.sel (.and (.not (.cmp .eq (.v 7) (.n 0))) (.not (.cmp .eq (.v 8) (.n 0)))) (.n 1) (.n 0)) (.ret [(.v 34), (.v 35), (.n 1), (.v 36), (.v 37)])))) (.lt (.sel (.not (.cmp .eq (.v 6) (.n 0))) (.n 1) (.n 0)) (.lt (.sel (.and (.not (.cmp .eq (.v 7) (.n 0))) (.not (.cmp .eq (.v 8) (.n 0)))) (.n 1) (.n 0)) (.ret [(.v 34), (.n 0), (.n 1), (.v 35), (.v 36)])))))) (.br (.cmp .lt (.n 0) (.v 3)) (.lt (.mn (.v 3) (.v 32)) (.lt (.sel (.not (.cmp .eq (.v 6) (.n 0))) (.n 1) (.n 0)) (.lt (.sel (.and (.not (.cmp .eq (.v 7) (.n 0))) (.not (.cmp .eq (.v 8) (.n 0)))) (.n 1) (.n 0)) (.ret [(.n 0), (.v 33), (.n 1), (.v 34), (.v 35)])))) (.lt (.sel (.not (.cmp .eq (.v 6) (.n 0))) (.n 1) (.n 0)) (.lt (.sel (.and (.not (.cmp .eq (.v 7) (.n 0))) (.not (.cmp .eq (.v 8) (.n 0)))) (.n 1) (.n 0)) (.ret [(.n 0), (.n 0), (.n 1), (.v 33), (.v 34)]))))))))) (.lt (.sub .u64 (.v 28) (.n 1)) (.lt (.wrap .i64 (.v 30)) (.br (.cmp .lt (.v 2) (.n 0)) (.lt (.neg .i64 (.v 31)) (.lt (.mx (.v 2) (.v 32)) (.br (.cmp .lt (.n 0) (.v 3)) (.lt (.mn (.v 3) (.v 31)) (.lt (.sel (.not (.cmp .eq (.v 6) (.n 0))) (.n 1) (.n 0)) (.lt (.sel (.and (.not (.cmp .eq (.v 7) (.n 0))) (.not (.cmp .eq (.v 8) (.n 0)))) (.n 1) (.n 0)) (.ret [(.v 33), (.v 34), (.n 1), (.v 35), (.v 36)])))) (.lt (.sel (.not (.cmp .eq (.v 6) (.n 0))) (.n 1) (.n 0)) (.lt (.sel (.and (.not (.cmp .eq (.v 7) (.n 0))) (.not (.cmp .eq (.v 8) (.n 0)))) (.n 1) (.n 0)) (.ret [(.v 33), (.n 0), (.n 1), (.v 34), (.v 35)])))))) (.br (.cmp .lt (.n 0) (.v 3)) (.lt (.mn (.v 3) (.v 31)) (.lt (.sel (.not (.cmp .eq (.v 6) (.n 0))) (.n 1) (.n 0)) (.lt (.sel (.and (.not (.cmp .eq (.v 7) (.n 0))) (.not (.cmp .eq (.v 8) (.n 0)))) (.n 1) (.n 0)) (.ret [(.n 0), (.v 32), (.n 1), (.v 33), (.v 34)])))) (.lt (.sel (.not (.cmp .eq (.v 6) (.n 0))) (.n 1) (.n 0)) (.lt (.sel (.and (.not (.cmp .eq (.v 7) (.n 0))) (.not (.cmp .eq (.v 8) (.n 0)))) (.n 1) (.n 0)) (.ret [(.n 0), (.n 0), (.n 1), (.v 32), (.v 33)]))))))))))))))))))))))))))))))) (.br (.or (.not (.and (.not (.cmp .eq (.v 7) (.n 0))) (.not (.cmp .eq (.v 8) (.n 0))))) (.cmp .lt (.n 0) (.v 9))) (.call 104 [(.v 4)] 1 (.call 104 [(.v 4)] 1 (.call 104 [(.v 4)] 1 (.call 104 [(.v 9)] 1 (.lt (.mn (.v 10) (.v 12)) (.lt (.mn (.v 14) (.v 13)) (.call 104 [(.v 4)] 1 (.call 104 [(.v 9)] 1 (.lt (.mx (.v 11) (.v 16)) (.lt (.mx (.v 18) (.v 17)) (.call 104 [(.v 2)] 1 (.br (.cmp .lt (.v 20) (.v 15)) (.call 104 [(.v 3)] 1 (.br (.and (.cmp .lt (.v 20) (.v 15)) (.cmp .lt (.v 21) (.v 15))) (.lt (.sel (.not (.cmp .eq (.v 6) (.n 0))) (.n 1) (.n 0)) (.lt (.sel (.and (.not (.cmp .eq (.v 7) (.n 0))) (.not (.cmp .eq (.v 8) (.n 0)))) (.n 1) (.n 0)) (.ret [(.v 2), (.v 3), (.n 1), (.v 22), (.v 23)]))) (.lt (.sub .u64 (.v 19) (.n 1)) (.lt (.wrap .i64 (.v 22)) (.br (.cmp .lt (.v 2) (.n 0)) (.lt (.neg .i64 (.v 23)) (.lt (.mx (.v 2) (.v 24)) (.br (.cmp .lt (.n 0) (.v 3)) (.lt (.mn (.v 3) (.v 23)) (.lt (.sel (.not (.cmp .eq (.v 6) (.n 0))) (.n 1) (.n 0)) (.lt (.sel (.and (.not (.cmp .eq (.v 7) (.n 0))) (.not (.cmp .eq (.v 8) (.n 0)))) (.n 1) (.n 0)) (.ret [(.v 25), (.v 26), (.n 1), (.v 27), (.v 28)])))) (.lt (.sel (.not (.cmp .eq (.v 6) (.n 0))) (.n 1) (.n 0)) (.lt (.sel (.and (.not (.cmp .eq (.v 7) (.n 0))) (.not (.cmp .eq (.v 8) (.n 0)))) (.n 1) (.n 0)) (.ret [(.v 25), (.n 0), (.n 1), (.v 26), (.v 27)])))))) (.br (.cmp .lt (.n 0) (.v 3)) (.lt (.mn (.v 3) (.v 23)) (.lt (.sel (.not (.cmp .eq (.v 6) (.n 0))) (.n 1) (.n 0)) (.lt (.sel (.and (.not (.cmp .eq (.v 7) (.n 0))) (.not (.cmp .eq (.v 8) (.n 0)))) (.n 1) (.n 0)) (.ret [(.n 0), (.v 24), (.n 1), (.v 25), (.v 26)])))) (.lt (.sel (.not (.cmp .eq (.v 6) (.n 0))) (.n 1) (.n 0)) (.lt (.sel (.and (.not (.cmp .eq (.v 7) (.n 0))) (.not (.cmp .eq (.v 8) (.n 0)))) (.n 1) (.n 0)) (.ret [(.n 0), (.n 0), (.n 1), (.v 24), (.v 25)]))))))))) (.lt (.sub .u64 (.v 19) (.n 1)) (.lt (.wrap .i64 (.v 21)) (.br (.cmp .lt (.v 2) (.n 0)) (.lt (.neg .i64 (.v 22)) (.lt (.mx (.v 2) (.v 23)) (.br (.cmp .lt (.n 0) (.v 3)) (.lt (.mn (.v 3) (.v 22)) (.lt (.sel (.not (.cmp .eq (.v 6) (.n 0))) (.n 1) (.n 0)) (.lt (.sel (.and (.not (.cmp .eq (.v 7) (.n 0))) (.not (.cmp .eq (.v 8) (.n 0)))) (.n 1) (.n 0)) (.ret [(.v 24), (.v 25), (.n 1), (.v 26), (.v 27)])))) (.lt (.sel (.not (.cmp .eq (.v 6) (.n 0))) (.n 1) (.n 0)) (.lt (.sel (.and (.not (.cmp .eq (.v 7) (.n 0))) (.not (.cmp .eq (.v 8) (.n 0)))) (.n 1) (.n 0)) (.ret [(.v 24), (.n 0), (.n 1), (.v 25), (.v 26)])))))) (.br (.cmp .lt (.n 0) (.v 3)) (.lt (.mn (.v 3) (.v 22)) (.lt (.sel (.not (.cmp .eq (.v 6) (.n 0))) (.n 1) (.n 0)) (.lt (.sel (.and (.not (.cmp .eq (.v 7) (.n 0))) (.not (.cmp .eq (.v 8) (.n 0)))) (.n 1) (.n 0)) (.ret [(.n 0), (.v 23), (.n 1), (.v 24), (.v 25)])))) (.lt (.sel (.not (.cmp .eq (.v 6) (.n 0))) (.n 1) (.n 0)) (.lt (.sel (.and (.not (.cmp .eq (.v 7) (.n 0))) (.not (.cmp .eq (.v 8) (.n 0)))) (.n 1) (.n 0)) (.ret [(.n 0), (.n 0), (.n 1), (.v 23), (.v 24)]))))))))))))))))))) (.br (.cmp .lt (.v 4) (.n (-1))) (.br (.cmp .lt (.n (-9223372036854775808)) (.v 3)) (.call 104 [(.v 4)] 1 (.call 104 [(.v 4)] 1 (.call 104 [(.v 4)] 1 (.call 104 [(.v 9)] 1 (.lt (.mn (.v 10) (.v 12)) (.lt (.mn (.v 14) (.v 13)) (.call 104 [(.v 4)] 1 (.call 104 [(.v 9)] 1 (.lt (.mx (.v 11) (.v 16)) (.lt (.mx (.v 18) (.v 17)) (.call 104 [(.v 2)] 1 (.br (.cmp .lt (.v 20) (.v 15)) (.call 104 [(.v 3)] 1 (.br (.and (.cmp .lt (.v 20) (.v 15)) (.cmp .lt (.v 21) (.v 15))) (.lt (.sel (.not (.cmp .eq (.v 6) (.n 0))) (.n 1) (.n 0)) (.lt (.sel (.and (.not (.cmp .eq (.v 7) (.n 0))) (.not (.cmp .eq (.v 8) (.n 0)))) (.n 1) (.n 0)) (.ret [(.v 2), (.v 3), (.n 1), (.v 22), (.v 23)]))) (.lt (.sub .u64 (.v 19) (.n 1)) (.lt (.wrap .i64 (.v 22)) (.br (.cmp .lt (.v 2) (.n 0)) (.lt (.neg .i64 (.v 23)) (.lt (.mx (.v 2) (.v 24)) (.br (.cmp .lt (.n 0) (.v 3)) (.lt (.mn (.v 3) (.v 23)) (.lt (.sel (.not (.cmp .eq (.v 6) (.n 0))) (.n 1) (.n 0)) (.lt (.sel (.and (.not (.cmp .eq (.v 7) (.n 0))) (.not (.cmp .eq (.v 8) (.n 0)))) (.n 1) (.n 0)) (.ret [(.v 25), (.v 26), (.n 1), (.v 27), (.v 28)])))) (.lt (.sel (.not (.cmp .eq (.v 6) (.n 0))) (.n 1) (.n 0)) (.lt (.sel (.and (.not (.cmp .eq (.v 7) (.n 0))) (.not (.cmp .eq (.v 8) (.n 0)))) (.n 1) (.n 0)) (.ret [(.v 25), (.n 0), (.n 1), (.v 26), (.v 27)])))))) (.br (.cmp .lt (.n 0) (.v 3)) (.lt (.mn (.v 3) (.v 23)) (.lt (.sel (.not (.cmp .eq (.v 6) (.n 0))) (.n 1) (.n 0)) (.lt (.sel (.and (.not (.cmp .eq (.v 7) (.n 0))) (.not (.cmp .eq (.v 8) (.n 0)))) (.n 1) (.n 0)) (.ret [(.n 0), (.v 24), (.n 1), (.v 25), (.v 26)])))) (.lt (.sel (.not (.cmp .eq (.v 6) (.n 0))) (.n 1) (.n 0)) (.lt (.sel (.and (.not (.cmp .eq (.v 7) (.n 0))) (.not (.cmp .eq (.v 8) (.n 0)))) (.n 1) (.n 0)) (.ret [(.n 0), (.n 0), (.n 1), (.v 24), (.v 25)]))))))))) (.lt (.sub .u64 (.v 19) (.n 1)) (.lt (.wrap .i64 (.v 21)) (.br (.cmp .lt (.v 2) (.n 0)) (.lt (.neg .i64 (.v 22)) (.lt (.mx (.v 2) (.v 23)) (.br (.cmp .lt (.n 0) (.v 3)) (.lt (.mn (.v 3) (.v 22)) (.lt (.sel (.not (.cmp .eq (.v 6) (.n 0))) (.n 1) (.n 0)) (.lt (.sel (.and (.not (.cmp .eq (.v 7) (.n 0))) (.not (.cmp .eq (.v 8) (.n 0)))) (.n 1) (.n 0)) (.ret [(.v 24), (.v 25), (.n 1), (.v 26), (.v 27)])))) (.lt (.sel (.not (.cmp .eq (.v 6) (.n 0))) (.n 1) (.n 0)) (.lt (.sel (.and (.not (.cmp .eq (.v 7) (.n 0))) (.not (.cmp .eq (.v 8) (.n 0)))) (.n 1) (.n 0)) (.ret [(.v 24), (.n 0), (.n 1), (.v 25), (.v 26)])))))) (.br (.cmp .lt (.n 0) (.v 3)) (.lt (.mn (.v 3) (.v 22)) (.lt (.sel (.not (.cmp .eq (.v 6) (.n 0))) (.n 1) (.n 0)) (.lt (.sel (.and (.not (.cmp .eq (.v 7) (.n 0))) (.not (.cmp .eq (.v 8) (.n 0)))) (.n 1) (.n 0)) (.ret [(.n 0), (.v 23), (.n 1), (.v 24), (.v 25)])))) (.lt (.sel (.not (.cmp .eq (.v 6) (.n 0))) (.n 1) (.n 0)) (.lt (.sel (.and (.not (.cmp .eq (.v 7) (.n 0))) (.not (.cmp .eq (.v 8) (.n 0)))) (.n 1) (.n 0)) (.ret [(.n 0), (.n 0), (.n 1), (.v 23), (.v 24)]))))))))))))))))))) (.call 104 [(.v 4)] 1 (.call 104 [(.v 4)] 1 (.call 104 [(.v 4)] 1 (.call 104 [(.v 9)] 1 (.lt (.mn (.v 10) (.v 12)) (.lt (.mn (.v 14) (.v 13)) (.call 104 [(.v 4)] 1 (.call 104 [(.v 9)] 1 (.lt (.mx (.v 11) (.v 16)) (.lt (.mx (.v 18) (.v 17)) (.call 104 [(.v 2)] 1 (.br (.cmp .lt (.v 20) (.v 15)) (.call 104 [(.v 3)] 1 (.br (.and (.cmp .lt (.v 20) (.v 15)) (.cmp .lt (.v 21) (.v 15))) (.lt (.sel (.not (.cmp .eq (.v 6) (.n 0))) (.n 1) (.n 0)) (.lt (.sel (.and (.not (.cmp .eq (.v 7) (.n 0))) (.not (.cmp .eq (.v 8) (.n 0)))) (.n 1) (.n 0)) (.ret [(.v 2), (.v 3), (.n 1), (.v 22), (.v 23)]))) (.lt (.sub .u64 (.v 19) (.n 1)) (.lt (.wrap .i64 (.v 22)) (.br (.cmp .lt (.v 2) (.n 0)) (.lt (.neg .i64 (.v 23)) (.lt (.mx (.v 2) (.v 24)) (.br (.cmp .lt (.n 0) (.v 3)) (.lt (.mn (.v 3) (.v 23)) (.lt (.sel (.not (.cmp .eq (.v 6) (.n 0))) (.n 1) (.n 0)) (.lt (.sel (.and (.not (.cmp .eq (.v 7) (.n 0))) (.not (.cmp .eq (.v 8) (.n 0)))) (.n 1) (.n 0)) (.ret [(.v 25), (.v 26), (.n 1), (.v 27), (.v 28)])))) (.lt (.sel (.not (.cmp .eq (.v 6) (.n 0))) (.n 1) (.n 0)) (.lt (.sel (.and (.not (.cmp .eq (.v 7) (.n 0))) (.not (.cmp .eq (.v 8) (.n 0)))) (.n 1) (.n 0)) (.ret [(.v 25), (.n 0), (.n 1), (.v 26), (.v 27)])))))) (.br (.cmp .lt (.n 0) (.v 3)) (.lt (.mn (.v 3) (.v 23)) (.lt (.sel (.not (.cmp .eq (.v 6) (.n 0))) (.n 1) (.n 0)) (.lt (.sel (.and (.not (.cmp .eq (.v 7) (.n 0))) (.not (.cmp .eq (.v 8) (.n 0)))) (.n 1) (.n 0)) (.ret [(.n 0), (.v 24), (.n 1), (.v 25), (.v 26)])))) (.lt (.sel (.not (.cmp .eq (.v 6) (.n 0))) (.n 1) (.n 0)) (.lt (.sel (.and (.not (.cmp .eq (.v 7) (.n 0))) (.not (.cmp .eq (.v 8) (.n 0)))) (.n 1) (.n 0)) (.ret [(.n 0), (.n 0), (.n 1), (.v 24), (.v 25)]))))))))) (.lt (.sub .u64 (.v 19) (.n 1)) (.lt (.wrap .i64 (.v 21)) (.br (.cmp .lt (.v 2) (.n 0)) (.lt (.neg .i64 (.v 22)) (.lt (.mx (.v 2) (.v 23)) (.br (.cmp .lt (.n 0) (.v 3)) (.lt (.mn (.v 3) (.v 22)) (.lt (.sel (.not (.cmp .eq (.v 6) (.n 0))) (.n 1) (.n 0)) (.lt (.sel (.and (.not (.cmp .eq (.v 7) (.n 0))) (.not (.cmp .eq (.v 8) (.n 0)))) (.n 1) (.n 0)) (.ret [(.v 24), (.v 25), (.n 1), (.v 26), (.v 27)])))) (.lt (.sel (.not (.cmp .eq (.v 6) (.n 0))) (.n 1) (.n 0)) (.lt (.sel (.and (.not (.cmp .eq (.v 7) (.n 0))) (.not (.cmp .eq (.v 8) (.n 0)))) (.n 1) (.n 0)) (.ret [(.v 24), (.n 0), (.n 1), (.v 25), (.v 26)])))))) (.br (.cmp .lt (.n 0) (.v 3)) (.lt (.mn (.v 3) (.v 22)) (.lt (.sel (.not (.cmp .eq (.v 6) (.n 0))) (.n 1) (.n 0)) (.lt (.sel (.and (.not (.cmp .eq (.v 7) (.n 0))) (.not (.cmp .eq (.v 8) (.n 0)))) (.n 1) (.n 0)) (.ret [(.n 0), (.v 23), (.n 1), (.v 24), (.v 25)])))) (.lt (.sel (.not (.cmp .eq (.v 6) (.n 0))) (.n 1) (.n 0)) (.lt (.sel (.and (.not (.cmp .eq (.v 7) (.n 0))) (.not (.cmp .eq (.v 8) (.n 0)))) (.n 1) (.n 0)) (.ret [(.n 0), (.n 0), (.n 1), (.v 23), (.v 24)])))))))))))))))))))) (.br (.cmp .lt (.n (-9223372036854775808)) (.v 3)) (.call 104 [(.v 4)] 1 (.call 104 [(.v 4)] 1 (.call 104 [(.v 4)] 1 (.call 104 [(.v 9)] 1 (.lt (.mn (.v 10) (.v 12)) (.lt (.mn (.v 14) (.v 13)) (.call 104 [(.v 4)] 1 (.call 104 [(.v 9)] 1 (.lt (.mx (.v 11) (.v 16)) (.lt (.mx (.v 18) (.v 17)) (.call 104 [(.v 2)] 1 (.br (.cmp .lt (.v 20) (.v 15)) (.call 104 [(.v 3)] 1 (.br (.and (.cmp .lt (.v 20) (.v 15)) (.cmp .lt (.v 21) (.v 15))) (.lt (.sel (.not (.cmp .eq (.v 6) (.n 0))) (.n 1) (.n 0)) (.lt (.sel (.and (.not (.cmp .eq (.v 7) (.n 0))) (.not (.cmp .eq (.v 8) (.n 0)))) (.n 1) (.n 0)) (.ret [(.v 2), (.v 3), (.n 1), (.v 22), (.v 23)]))) (.lt (.sub .u64 (.v 19) (.n 1)) (.lt (.wrap .i64 (.v 22)) (.br (.cmp .lt (.v 2) (.n 0)) (.lt (.neg .i64 (.v 23)) (.lt (.mx (.v 2) (.v 24)) (.br (.cmp .lt (.n 0) (.v 3)) (.lt (.mn (.v 3) (.v 23)) (.lt (.sel (.not (.cmp .eq (.v 6) (.n 0))) (.n 1) (.n 0)) (.lt (.sel (.and (.not (.cmp .eq (.v 7) (.n 0))) (.not (.cmp .eq (.v 8) (.n 0)))) (.n 1) (.n 0)) (.ret [(.v 25), (.v 26), (.n 1), (.v 27), (.v 28)])))) (.lt (.sel (.not (.cmp .eq (.v 6) (.n 0))) (.n 1) (.n 0)) (.lt (.sel (.and (.not (.cmp .eq (.v 7) (.n 0))) (.not (.cmp .eq (.v 8) (.n 0)))) (.n 1) (.n 0)) (.ret [(.v 25), (.n 0), (.n 1), (.v 26), (.v 27)])))))) (.br (.cmp .lt (.n 0) (.v 3)) (.lt (.mn (.v 3) (.v 23)) (.lt (.sel (.not (.cmp .eq (.v 6) (.n 0))) (.n 1) (.n 0)) (.lt (.sel (.and (.not (.cmp .eq (.v 7) (.n 0))) (.not (.cmp .eq (.v 8) (.n 0)))) (.n 1) (.n 0)) (.ret [(.n 0), (.v 24), (.n 1), (.v 25), (.v 26)])))) (.lt (.sel (.not (.cmp .eq (.v 6) (.n 0))) (.n 1) (.n 0)) (.lt (.sel (.and (.not (.cmp .eq (.v 7) (.n 0))) (.not (.cmp .eq (.v 8) (.n 0)))) (.n 1) (.n 0)) (.ret [(.n 0), (.n 0), (.n 1), (.v 24), (.v 25)]))))))))) (.lt (.sub .u64 (.v 19) (.n 1)) (.lt (.wrap .i64 (.v 21)) (.br (.cmp .lt (.v 2) (.n 0)) (.lt (.neg .i64 (.v 22)) (.lt (.mx (.v 2) (.v 23)) (.br (.cmp .lt (.n 0) (.v 3)) (.lt (.mn (.v 3) (.v 22)) (.lt (.sel (.not (.cmp .eq (.v 6) (.n 0))) (.n 1) (.n 0)) (.lt (.sel (.and (.not (.cmp .eq (.v 7) (.n 0))) (.not (.cmp .eq (.v 8) (.n 0)))) (.n 1) (.n 0)) (.ret [(.v 24), (.v 25), (.n 1), (.v 26), (.v 27)])))) (.lt (.sel (.not (.cmp .eq (.v 6) (.n 0))) (.n 1) (.n 0)) (.lt (.sel (.and (.not (.cmp .eq (.v 7) (.n 0))) (.not (.cmp .eq (.v 8) (.n 0)))) (.n 1) (.n 0)) (.ret [(.v 24), (.n 0), (.n 1), (.v 25), (.v 26)])))))) (.br (.cmp .lt (.n 0) (.v 3)) (.lt (.mn (.v 3) (.v 22)) (.lt (.sel (.not (.cmp .eq (.v 6) (.n 0))) (.n 1) (.n 0)) (.lt (.sel (.and (.not (.cmp .eq (.v 7) (.n 0))) (.not (.cmp .eq (.v 8) (.n 0)))) (.n 1) (.n 0)) (.ret [(.n 0), (.v 23), (.n 1), (.v 24), (.v 25)])))) (.lt (.sel (.not (.cmp .eq (.v 6) (.n 0))) (.n 1) (.n 0)) (.lt (.sel (.and (.not (.cmp .eq (.v 7) (.n 0))) (.not (.cmp .eq (.v 8) (.n 0)))) (.n 1) (.n 0)) (.ret [(.n 0), (.n 0), (.n 1), (.v 23), (.v 24)]))))))))))))))))))) (.lt (.sel (.not (.cmp .eq (.v 6) (.n 0))) (.n 1) (.n 0)) (.lt (.sel (.and (.not (.cmp .eq (.v 7) (.n 0))) (.not (.cmp .eq (.v 8) (.n 0)))) (.n 1) (.n 0)) (.ret [(.n 0), (.n 0), (.n 0), (.v 10), (.v 11)])))))))) (.br (.cmp .lt (.n 0) (.v 5)) (.lt (.mx (.v 4) (.n 1)) (.call 104 [(.v 9)] 1 (.call 104 [(.v 9)] 1 (.call 104 [(.v 9)] 1 (.call 104 [(.v 5)] 1 (.lt (.mn (.v 10) (.v 12)) (.lt (.mn (.v 14) (.v 13)) (.call 104 [(.v 9)] 1 (.call 104 [(.v 5)] 1 (.lt (.mx (.v 11) (.v 16)) (.lt (.mx (.v 18) (.v 17)) (.call 104 [(.v 2)] 1 (.br (.cmp .lt (.v 20) (.v 15)) (.call 104 [(.v 3)] 1 (.br (.and (.cmp .lt (.v 20) (.v 15)) (.cmp .lt (.v 21) (.v 15))) (.lt (.sel (.not (.cmp .eq (.v 6) (.n 0))) (.n 1) (.n 0)) (.lt (.sel (.and (.not (.cmp .eq (.v 7) (.n 0))) (.not (.cmp .eq (.v 8) (.n 0)))) (.n 1) (.n 0)) (.ret [(.v 2), (.v 3), (.n 1), (.v 22), (.v 23)]))) (.lt (.sub .u64 (.v 19) (.n 1)) (.lt (.wrap .i64 (.v 22)) (.br (.cmp .lt (.v 2) (.n 0)) (.lt (.neg .i64 (.v 23)) (.lt (.mx (.v 2) (.v 24)) (.br (.cmp .lt (.n 0) (.v 3)) (.lt (.mn (.v 3) (.v 23)) (.lt (.sel (.not (.cmp .eq (.v 6) (.n 0))) (.n 1) (.n 0)) (.lt (.sel (.and (.not (.cmp .eq (.v 7) (.n 0))) (.not (.cmp .eq (.v 8) (.n 0)))) (.n 1) (.n 0)) (.ret [(.v 25), (.v 26), (.n 1), (.v 27), (.v 28)])))) (.lt (.sel (.not (.cmp .eq (.v 6) (.n 0))) (.n 1) (.n 0)) (.lt (.sel (.and (.not (.cmp .eq (.v 7) (.n 0))) (.not (.cmp .eq (.v 8) (.n 0)))) (.n 1) (.n 0)) (.ret [(.v 25), (.n 0), (.n 1), (.v 26), (.v 27)])))))) (.br (.cmp .lt (.n 0) (.v 3)) (.lt (.mn (.v 3) (.v 23)) (.lt (.sel (.not (.cmp .eq (.v 6) (.n 0))) (.n 1) (.n 0)) (.lt (.sel (.and (.not (.cmp .eq (.v 7) (.n 0))) (.not (.cmp .eq (.v 8) (.n 0)))) (.n 1) (.n 0)) (.ret [(.n 0), (.v 24), (.n 1), (.v 25), (.v 26)])))) (.lt (.sel (.not (.cmp .eq (.v 6) (.n 0))) (.n 1) (.n 0)) (.lt (.sel (.and (.not (.cmp .eq (.v 7) (.n 0))) (.not (.cmp .eq (.v 8) (.n 0)))) (.n 1) (.n 0)) (.ret [(.n 0), (.n 0), (.n 1), (.v 24), (.v 25)]))))))))) (.lt (.sub .u64 (.v 19) (.n 1)) (.lt (.wrap .i64 (.v 21)) (.br (.cmp .lt (.v 2) (.n 0)) (.lt (.neg .i64 (.v 22)) (.lt (.mx (.v 2) (.v 23)) (.br (.cmp .lt (.n 0) (.v 3)) (.lt (.mn (.v 3) (.v 22)) (.lt (.sel (.not (.cmp .eq (.v 6) (.n 0))) (.n 1) (.n 0)) (.lt (.sel (.and (.not (.cmp .eq (.v 7) (.n 0))) (.not (.cmp .eq (.v 8) (.n 0)))) (.n 1) (.n 0)) (.ret [(.v 24), (.v 25), (.n 1), (.v 26), (.v 27)])))) (.lt (.sel (.not (.cmp .eq (.v 6) (.n 0))) (.n 1) (.n 0)) (.lt (.sel (.and (.not (.cmp .eq (.v 7) (.n 0))) (.not (.cmp .eq (.v 8) (.n 0)))) (.n 1) (.n 0)) (.ret [(.v 24), (.n 0), (.n 1), (.v 25), (.v 26)])))))) (.br (.cmp .lt (.n 0) (.v 3)) (.lt (.mn (.v 3) (.v 22)) (.lt (.sel (.not (.cmp .eq (.v 6) (.n 0))) (.n 1) (.n 0)) (.lt (.sel (.and (.not (.cmp .eq (.v 7) (.n 0))) (.not (.cmp .eq (.v 8) (.n 0)))) (.n 1) (.n 0)) (.ret [(.n 0), (.v 23), (.n 1), (.v 24), (.v 25)])))) (.lt (.sel (.not (.cmp .eq (.v 6) (.n 0))) (.n 1) (.n 0)) (.lt (.sel (.and (.not (.cmp .eq (.v 7) (.n 0))) (.not (.cmp .eq (.v 8) (.n 0)))) (.n 1) (.n 0)) (.ret [(.n 0), (.n 0), (.n 1), (.v 23), (.v 24)])))))))))))))))))))) (.lt (.sel (.not (.cmp .eq (.v 6) (.n 0))) (.n 1) (.n 0)) (.lt (.sel (.and (.not (.cmp .eq (.v 7) (.n 0))) (.not (.cmp .eq (.v 8) (.n 0)))) (.n 1) (.n 0)) (.ret [(.n 0), (.n 0), (.n 0), (.v 9), (.v 10)])))))) (.br (.cmp .lt (.v 4) (.n 0)) (.lt (.mn (.v 5) (.n (-1))) (.br (.cmp .lt (.n 0) (.v 5)) (.lt (.mx (.v 4) (.n 1)) (.call 104 [(.v 4)] 1 (.call 104 [(.v 4)] 1 (.call 104 [(.v 4)] 1 (.call 104 [(.v 8)] 1 (.lt (.mn (.v 10) (.v 12)) (.lt (.mn (.v 14) (.v 13)) (.call 104 [(.v 4)] 1 (.call 104 [(.v 8)] 1 (.lt (.mx (.v 11) (.v 16)) (.lt (.mx (.v 18) (.v 17)) (.call 104 [(.v 9)] 1 (.call 104 [(.v 5)] 1 (.lt (.mn (.v 15) (.v 20)) (.lt (.mn (.v 22) (.v 21)) (.call 104 [(.v 9)] 1 (.call 104 [(.v 5)] 1 (.lt (.mx (.v 19) (.v 24)) (.lt (.mx (.v 26) (.v 25)) (.call 104 [(.v 2)] 1 (.br (.cmp .lt (.v 28) (.v 23)) (.call 104 [(.v 3)] 1 (.br (.and (.cmp .lt (.v 28) (.v 23)) (.cmp .lt (.v 29) (.v 23))) (.lt (.sel (.not (.cmp .eq (.v 6) (.n 0))) (.n 1) (.n 0)) (.ret [(.v 2), (.v 3), (.n 1), (.v 30), (.n 0)])) (.lt (.sub .u64 (.v 27) (.n 1)) (.lt (.wrap .i64 (.v 30)) (.br (.cmp .lt (.v 2) (.n 0)) (.lt (.neg .i64 (.v 31)) (.lt (.mx (.v 2) (.v 32)) (.br (.cmp .lt (.n 0) (.v 3)) (.lt (.mn (.v 3) (.v 31)) (.lt (.sel (.not (.cmp .eq (.v 6) (.n 0))) (.n 1) (.n 0)) (.ret [(.v 33), (.v 34), (.n 1), (.v 35), (.n 0)]))) (.lt (.sel (.not (.cmp .eq (.v 6) (.n 0))) (.n 1) (.n 0)) (.ret [(.v 33), (.n 0), (.n 1), (.v 34), (.n 0)]))))) (.br (.cmp .lt (.n 0) (.v 3)) (.lt (.mn (.v 3) (.v 31)) (.lt (.sel (.not (.cmp .eq (.v 6) (.n 0))) (.n 1) (.n 0)) (.ret [(.n 0), (.v 32), (.n 1), (.v 33), (.n 0)]))) (.lt (.sel (.not (.cmp .eq (.v 6) (.n 0))) (.n 1) (.n 0)) (.ret [(.n 0), (.n 0), (.n 1), (.v 32), (.n 0)])))))))) (.lt (.sub .u64 (.v 27) (.n 1)) (.lt (.wrap .i64 (.v 29)) (.br (.cmp .lt (.v 2) (.n 0)) (.lt (.neg .i64 (.v 30)) (.lt (.mx (.v 2) (.v 31)) (.br (.cmp .lt (.n 0) (.v 3)) (.lt (.mn (.v 3) (.v 30)) (.lt (.sel (.not (.cmp .eq (.v 6) (.n 0))) (.n 1) (.n 0)) (.ret [(.v 32), (.v 33), (.n 1), (.v 34), (.n 0)]))) (.lt (.sel (.not (.cmp .eq (.v 6) (.n 0))) (.n 1) (.n 0)) (.ret [(.v 32), (.n 0), (.n 1), (.v 33), (.n 0)]))))) (.br (.cmp .lt (.n 0) (.v 3)) (.lt (.mn (.v 3) (.v 30)) (.lt (.sel (.not (.cmp .eq (.v 6) (.n 0))) (.n 1) (.n 0)) (.ret [(.n 0), (.v 31), (.n 1), (.v 32), (.n 0)]))) (.lt (.sel (.not (.cmp .eq (.v 6) (.n 0))) (.n 1) (.n 0)) (.ret [(.n 0), (.n 0), (.n 1), (.v 31), (.n 0)]))))))))))))))))))))))))))) (.call 104 [(.v 4)] 1 (.call 104 [(.v 4)] 1 (.call 104 [(.v 4)] 1 (.call 104 [(.v 8)] 1 (.lt (.mn (.v 9) (.v 11)) (.lt (.mn (.v 13) (.v 12)) (.call 104 [(.v 4)] 1 (.call 104 [(.v 8)] 1 (.lt (.mx (.v 10) (.v 15)) (.lt (.mx (.v 17) (.v 16)) (.call 104 [(.v 2)] 1 (.br (.cmp .lt (.v 19) (.v 14)) (.call 104 [(.v 3)] 1 (.br (.and (.cmp .lt (.v 19) (.v 14)) (.cmp .lt (.v 20) (.v 14))) (.lt (.sel (.not (.cmp .eq (.v 6) (.n 0))) (.n 1) (.n 0)) (.ret [(.v 2), (.v 3), (.n 1), (.v 21), (.n 0)])) (.lt (.sub .u64 (.v 18) (.n 1)) (.lt (.wrap .i64 (.v 21)) (.br (.cmp .lt (.v 2) (.n 0)) (.lt (.neg .i64 (.v 22)) (.lt (.mx (.v 2) (.v 23)) (.br (.cmp .lt (.n 0) (.v 3)) (.lt (.mn (.v 3) (.v 22)) (.lt (.sel (.not (.cmp .eq (.v 6) (.n 0))) (.n 1) (.n 0)) (.ret [(.v 24), (.v 25), (.n 1), (.v 26), (.n 0)]))) (.lt (.sel (.not (.cmp .eq (.v 6) (.n 0))) (.n 1) (.n 0)) (.ret [(.v 24), (.n 0), (.n 1), (.v 25), (.n 0)]))))) (.br (.cmp .lt (.n 0) (.v 3)) (.lt (.mn (.v 3) (.v 22)) (.lt (.sel (.not (.cmp .eq (.v 6) (.n 0))) (.n 1) (.n 0)) (.ret [(.n 0), (.v 23), (.n 1), (.v 24), (.n 0)]))) (.lt (.sel (.not (.cmp .eq (.v 6) (.n 0))) (.n 1) (.n 0)) (.ret [(.n 0), (.n 0), (.n 1), (.v 23), (.n 0)])))))))) (.lt (.sub .u64 (.v 18) (.n 1)) (.lt (.wrap .i64 (.v 20)) (.br (.cmp .lt (.v 2) (.n 0)) (.lt (.neg .i64 (.v 21)) (.lt (.mx (.v 2) (.v 22)) (.br (.cmp .lt (.n 0) (.v 3)) (.lt (.mn (.v 3) (.v 21)) (.lt (.sel (.not (.cmp .eq (.v 6) (.n 0))) (.n 1) (.n 0)) (.ret [(.v 23), (.v 24), (.n 1), (.v 25), (.n 0)]))) (.lt (.sel (.not (.cmp .eq (.v 6) (.n 0))) (.n 1) (.n 0)) (.ret [(.v 23), (.n 0), (.n 1), (.v 24), (.n 0)]))))) (.br (.cmp .lt (.n 0) (.v 3)) (.lt (.mn (.v 3) (.v 21)) (.lt (.sel (.not (.cmp .eq (.v 6) (.n 0))) (.n 1) (.n 0)) (.ret [(.n 0), (.v 22), (.n 1), (.v 23), (.n 0)]))) (.lt (.sel (.not (.cmp .eq (.v 6) (.n 0))) (.n 1) (.n 0)) (.ret [(.n 0), (.n 0), (.n 1), (.v 22), (.n 0)])))))))))))))))))))) (.br (.cmp .lt (.n 0) (.v 5)) (.lt (.mx (.v 4) (.n 1)) (.call 104 [(.v 8)] 1 (.call 104 [(.v 8)] 1 (.call 104 [(.v 8)] 1 (.call 104 [(.v 5)] 1 (.lt (.mn (.v 9) (.v 11)) (.lt (.mn (.v 13) (.v 12)) (.call 104 [(.v 8)] 1 (.call 104 [(.v 5)] 1 (.lt (.mx (.v 10) (.v 15)) (.lt (.mx (.v 17) (.v 16)) (.call 104 [(.v 2)] 1 (.br (.cmp .lt (.v 19) (.v 14)) (.call 104 [(.v 3)] 1 (.br (.and (.cmp .lt (.v 19) (.v 14)) (.cmp .lt (.v 20) (.v 14))) (.lt (.sel (.not (.cmp .eq (.v 6) (.n 0))) (.n 1) (.n 0)) (.ret [(.v 2), (.v 3), (.n 1), (.v 21), (.n 0)])) (.lt (.sub .u64 (.v 18) (.n 1)) (.lt (.wrap .i64 (.v 21)) (.br (.cmp .lt (.v 2) (.n 0)) (.lt (.neg .i64 (.v 22)) (.lt (.mx (.v 2) (.v 23)) (.br (.cmp .lt (.n 0) (.v 3)) (.lt (.mn (.v 3) (.v 22)) (.lt (.sel (.not (.cmp .eq (.v 6) (.n 0))) (.n 1) (.n 0)) (.ret [(.v 24), (.v 25), (.n 1), (.v 26), (.n 0)]))) (.lt (.sel (.not (.cmp .eq (.v 6) (.n 0))) (.n 1) (.n 0)) (.ret [(.v 24), (.n 0), (.n 1), (.v 25), (.n 0)]))))) (.br (.cmp .lt (.n 0) (.v 3)) (.lt (.mn (.v 3) (.v 22)) (.lt (.sel (.not (.cmp .eq (.v 6) (.n 0))) (.n 1) (.n 0)) (.ret [(.n 0), (.v 23), (.n 1), (.v 24), (.n 0)]))) (.lt (.sel (.not (.cmp .eq (.v 6) (.n 0))) (.n 1) (.n 0)) (.ret [(.n 0), (.n 0), (.n 1), (.v 23), (.n 0)])))))))) (.lt (.sub .u64 (.v 18) (.n 1)) (.lt (.wrap .i64 (.v 20)) (.br (.cmp .lt (.v 2) (.n 0)) (.lt (.neg .i64 (.v 21)) (.lt (.mx (.v 2) (.v 22)) (.br (.cmp .lt (.n 0) (.v 3)) (.lt (.mn (.v 3) (.v 21)) (.lt (.sel (.not (.cmp .eq (.v 6) (.n 0))) (.n 1) (.n 0)) (.ret [(.v 23), (.v 24), (.n 1), (.v 25), (.n 0)]))) (.lt (.sel (.not (.cmp .eq (.v 6) (.n 0))) (.n 1) (.n 0)) (.ret [(.v 23), (.n 0), (.n 1), (.v 24), (.n 0)]))))) (.br (.cmp .lt (.n 0) (.v 3)) (.lt (.mn (.v 3) (.v 21)) (.lt (.sel (.not (.cmp .eq (.v 6) (.n 0))) (.n 1) (.n 0)) (.ret [(.n 0), (.v 22), (.n 1), (.v 23), (.n 0)]))) (.lt (.sel (.not (.cmp .eq (.v 6) (.n 0))) (.n 1) (.n 0)) (.ret [(.n 0), (.n 0), (.n 1), (.v 22), (.n 0)]))))))))))))))))))) (.lt (.sel (.not (.cmp .eq (.v 6) (.n 0))) (.n 1) (.n 0)) (.ret [(.n 0), (.n 0), (.n 0), (.v 8), (.n 0)])))))))
theorem q48x31 : sxRun (Cf [p47, p83, p84, p104] unAll) 200 48 sg48 ((mkS 0 sg48.ins).map (subst [(0, 3), (1, 1)])) [] = t48x31 := by kernel_rfl
def t48x32 : T := (.call 84 [(.n 0), (.v 4), (.v 5)] 1 (.br (.cmp .lt (.v 4) (.n 0)) (.lt (.mn (.v 5) (.n (-1))) (.br (.cmp .lt (.n 0) (.v 5)) (.lt (.mx (.v 4) (.n 1)) (.call 104 [(.v 4)] 1 (.call 104 [(.v 4)] 1 (.call 104 [(.v 4)] 1 (.call 104 [(.v 7)] 1 (.lt (.mn (.v 9) (.v 11)) (.lt (.mn (.v 13) (.v 12)) (.call 104 [(.v 4)] 1 (.call 104 [(.v 7)] 1 (.lt (.mx (.v 10) (.v 15)) (.lt (.mx (.v 17) (.v 16)) (.call 104 [(.v 8)] 1 (.call 104 [(.v 5)] 1 (.lt (.mn (.v 14) (.v 19)) (.lt (.mn (.v 21) (.v 20)) (.call 104 [(.v 8)] 1 (.call 104 [(.v 5)] 1 (.lt (.mx (.v 18) (.v 23)) (.lt (.mx (.v 25) (.v 24)) (.call 104 [(.v 2)] 1 (.br (.cmp .lt (.v 27) (.v 22)) (.call 104 [(.v 3)] 1 (.br (.and (.cmp .lt (.v 27) (.v 22)) (.cmp .lt (.v 28) (.v 22))) (.lt (.sel (.not (.cmp .eq (.v 6) (.n 0))) (.n 1) (.n 0)) (.ret [(.v 2), (.v 3), (.n 1), (.v 29), (.n 0)])) (.lt (.sub .u64 (.v 26) (.n 1)) (.lt (.wrap .i64 (.v 29)) (.br (.cmp .lt (.v 2) (.n 0)) (.lt (.neg .i64 (.v 30)) (.lt (.mx (.v 2) (.v 31)) (.br (.cmp .lt (.n 0) (.v 3)) (.lt (.mn (.v 3) (.v 30)) (.lt (.sel (.not (.cmp .eq (.v 6) (.n 0))) (.n 1) (.n 0)) (.ret [(.v 32), (.v 33), (.n 1), (.v 34), (.n 0)]))) (.lt (.sel (.not (.cmp .eq (.v 6) (.n 0))) (.n 1) (.n 0)) (.ret [(.v 32), (.n 0), (.n 1), (.v 33), (.n 0)]))))) (.br (.cmp .lt (.n 0) (.v 3)) (.lt (.mn (.v 3) (.v 30)) (.lt (.sel (.not (.cmp .eq (.v 6) (.n 0))) (.n 1) (.n 0)) (.ret [(.n 0), (.v 31), (.n 1), (.v 32), (.n 0)]))) (.lt (.sel (.not (.cmp .eq (.v 6) (.n 0))) (.n 1) (.n 0)) (.ret [(.n 0), (.n 0), (.n 1), (.v 31), (.n 0)])))))))) (.lt (.sub .u64 (.v 26) (.n 1)) (.lt (.wrap .i64 (.v 28)) (.br (.cmp .lt (.v 2) (.n 0)) (.lt (.neg .i64 (.v 29)) (.lt (.mx (.v 2) (.v 30)) (.br (.cmp .lt (.n 0) (.v 3)) (.lt (.mn (.v 3) (.v 29)) (.lt (.sel (.not (.cmp .eq (.v 6) (.n 0))) (.n 1) (.n 0)) (.ret [(.v 31), (.v 32), (.n 1), (.v 33), (.n 0)]))) (.lt (.sel (.not (.cmp .eq (.v 6) (.n 0))) (.n 1) (.n 0)) (.ret [(.v 31), (.n 0), (.n 1), (.v 32), (.n 0)]))))) (.br (.cmp .lt (.n 0) (.v 3)) (.lt (.mn (.v 3) (.v 29)) (.lt (.sel (.not (.cmp .eq (.v 6) (.n 0))) (.n 1) (.n 0)) (.ret [(.n 0), (.v 30), (.n 1), (.v 31), (.n 0)]))) (.lt (.sel (.not (.cmp .eq (.v 6) (.n 0))) (.n 1) (.n 0)) (.ret [(.n 0), (.n 0), (.n 1), (.v 30), (.n 0)]))))))))))))))))))))))))))) (.call 104 [(.v 4)] 1 (.call 104 [(.v 4)] 1 (.call 104 [(.v 4)] 1 (.call 104 [(.v 7)] 1 (.lt (.mn (.v 8) (.v 10)) (.lt (.mn (.v 12) (.v 11)) (.call 104 [(.v 4)] 1 (.call 104 [(.v 7)] 1 (.lt (.mx (.v 9) (.v 14)) (.lt (.mx (.v 16) (.v 15)) (.call 104 [(.v 2)] 1 (.br (.cmp .lt (.v 18) (.v 13)) (.call 104 [(.v 3)] 1 (.br (.and (.cmp .lt (.v 18) (.v 13)) (.cmp .lt (.v 19) (.v 13))) (.lt (.sel (.not (.cmp .eq (.v 6) (.n 0))) (.n 1) (.n 0)) (.ret [(.v 2), (.v 3), (.n 1), (.v 20), (.n 0)])) (.lt (.sub .u64 (.v 17) (.n 1)) (.lt (.wrap .i64 (.v 20)) (.br (.cmp .lt (.v 2) (.n 0)) (.lt (.neg .i64 (.v 21)) (.lt (.mx (.v 2) (.v 22)) (.br (.cmp .lt (.n 0) (.v 3)) (.lt (.mn (.v 3) (.v 21)) (.lt (.sel (.not (.cmp .eq (.v 6) (.n 0))) (.n 1) (.n 0)) (.ret [(.v 23), (.v 24), (.n 1), (.v 25), (.n 0)]))) (.lt (.sel (.not (.cmp .eq (.v 6) (.n 0))) (.n 1) (.n 0)) (.ret [(.v 23), (.n 0), (.n 1), (.v 24), (.n 0)]))))) (.br (.cmp .lt (.n 0) (.v 3)) (.lt (.mn (.v 3) (.v 21)) (.lt (.sel (.not (.cmp .eq (.v 6) (.n 0))) (.n 1) (.n 0)) (.ret [(.n 0), (.v 22), (.n 1), (.v 23), (.n 0)]))) (.lt (.sel (.not (.cmp .eq (.v 6) (.n 0))) (.n 1) (.n 0)) (.ret [(.n 0), (.n 0), (.n 1), (.v 22), (.n 0)])))))))) (.lt (.sub .u64 (.v 17) (.n 1)) (.lt (.wrap .i64 (.v 19)) (.br (.cmp .lt (.v 2) (.n 0)) (.lt (.neg .i64 (.v 20)) (.lt (.mx (.v 2) (.v 21)) (.br (.cmp .lt (.n 0) (.v 3)) (.lt (.mn (.v 3) (.v 20)) (.lt (.sel (.not (.cmp .eq (.v 6) (.n 0))) (.n 1) (.n 0)) (.ret [(.v 22), (.v 23), (.n 1), (.v 24), (.n 0)]))) (.lt (.sel (.not (.cmp .eq (.v 6) (.n 0))) (.n 1) (.n 0)) (.ret [(.v 22), (.n 0), (.n 1), (.v 23), (.n 0)]))))) (.br (.cmp .lt (.n 0) (.v 3)) (.lt (.mn (.v 3) (.v 20)) (.lt (.sel (.not (.cmp .eq (.v 6) (.n 0))) (.n 1) (.n 0)) (.ret [(.n 0), (.v 21), (.n 1), (.v 22), (.n 0)]))) (.lt (.sel (.not (.cmp .eq (.v 6) (.n 0))) (.n 1) (.n 0)) (.ret [(.n 0), (.n 0), (.n 1), (.v 21), (.n 0)])))))))))))))))))))) (.br (.cmp .lt (.n 0) (.v 5)) (.lt (.mx (.v 4) (.n 1)) (.call 104 [(.v 7)] 1 (.call 104 [(.v 7)] 1 (.call 104 [(.v 7)] 1 (.call 104 [(.v 5)] 1 (.lt (.mn (.v 8) (.v 10)) (.lt (.mn (.v 12) (.v 11)) (.call 104 [(.v 7)] 1 (.call 104 [(.v 5)] 1 (.lt (.mx (.v 9) (.v 14)) (.lt (.mx (.v 16) (.v 15)) (.call 104 [(.v 2)] 1 (.br (.cmp .lt (.v 18) (.v 13)) (.call 104 [(.v 3)] 1 (.br (.and (.cmp .lt (.v 18) (.v 13)) (.cmp .lt (.v 19) (.v 13))) (.lt (.sel (.not (.cmp .eq (.v 6) (.n 0))) (.n 1) (.n 0)) (.ret [(.v 2), (.v 3), (.n 1), (.v 20), (.n 0)])) (.lt (.sub .u64 (.v 17) (.n 1)) (.lt (.wrap .i64 (.v 20)) (.br (.cmp .lt (.v 2) (.n 0)) (.lt (.neg .i64 (.v 21)) (.lt (.mx (.v 2) (.v 22)) (.br (.cmp .lt (.n 0) (.v 3)) (.lt (.mn (.v 3) (.v 21)) (.lt (.sel (.not (.cmp .eq (.v 6) (.n 0))) (.n 1) (.n 0)) (.ret [(.v 23), (.v 24), (.n 1), (.v 25), (.n 0)]))) (.lt (.sel (.not (.cmp .eq (.v 6) (.n 0))) (.n 1) (.n 0)) (.ret [(.v 23), (.n 0), (.n 1), (.v 24), (.n 0)]))))) (.br (.cmp .lt (.n 0) (.v 3)) (.lt (.mn (.v 3) (.v 21)) (.lt (.sel (.not (.cmp .eq (.v 6) (.n 0))) (.n 1) (.n 0)) (.ret [(.n 0), (.v 22), (.n 1), (.v 23), (.n 0)]))) (.lt (.sel (.not (.cmp .eq (.v 6) (.n 0))) (.n 1) (.n 0)) (.ret [(.n 0), (.n 0), (.n 1), (.v 22), (.n 0)])))))))) (.lt (.sub .u64 (.v 17) (.n 1)) (.lt (.wrap .i64 (.v 19)) (.br (.cmp .lt (.v 2) (.n 0)) (.lt (.neg .i64 (.v 20)) (.lt (.mx (.v 2) (.v 21)) (.br (.cmp .lt (.n 0) (.v 3)) (.lt (.mn (.v 3) (.v 20)) (.lt (.sel (.not (.cmp .eq (.v 6) (.n 0))) (.n 1) (.n 0)) (.ret [(.v 22), (.v 23), (.n 1), (.v 24), (.n 0)]))) (.lt (.sel (.not (.cmp .eq (.v 6) (.n 0))) (.n 1) (.n 0)) (.ret [(.v 22), (.n 0), (.n 1), (.v 23), (.n 0)]))))) (.br (.cmp .lt (.n 0) (.v 3)) (.lt (.mn (.v 3) (.v 20)) (.lt (.sel (.not (.cmp .eq (.v 6) (.n 0))) (.n 1) (.n 0)) (.ret [(.n 0), (.v 21), (.n 1), (.v 22), (.n 0)]))) (.lt (.sel (.not (.cmp .eq (.v 6) (.n 0))) (.n 1) (.n 0)) (.ret [(.n 0), (.n 0), (.n 1), (.v 21), (.n 0)]))))))))))))))))))) (.lt (.sel (.not (.cmp .eq (.v 6) (.n 0))) (.n 1) (.n 0)) (.ret [(.n 0), (.n 0), (.n 0), (.v 7), (.n 0)])))))
theorem q48x32 : sxRun (Cf [p47, p83, p84, p104] unAll) 200 48 sg48 ((mkS 0 sg48.ins).map (subst [(0, 3), (1, 2)])) [] = t48x32 := by kernel_rfl
theorem c48x21_111111 {F : Nat → List Int → Option (List Int)} {a b c d : Int} (g47 : F 47 = cornersS) (g83 : F 83 = addS) (g84 : F 84 = inS) (g104 : F 104 = sizeS) (hr : in4 a b c d) (hab : a ≤ b) (hcd : c ≤ d) (u1 : (a ≤ -9223372036854775808 ∧ -9223372036854775808 ≤ b)) (n : c < 0) (p : 0 < d) (u2 : (c ≤ -1 ∧ -1 ≤ d)) (c2 : c < -1) (m : -9223372036854775808 < b) : t48x21.den F 0 [2, 1, a, b, c, d] = some (0, quotR 1 a b c d) := by
  obtain ⟨ha, hb, hc, hd⟩ := hr
  have ha1 : -9223372036854775808 ≤ a := ha.1
  have hb1 : -9223372036854775808 ≤ b := hb.1
  have f0 : F 84 [0, c, d] = some [trapV c d] := by rw [g84]; rfl
  have f1 : F 84 [-9223372036854775808, a, b] = some [1] := by rw [g84]; exact congrArg (fun x => some [x]) (if_pos u1)
  have f2 : F 84 [-1, c, d] = some [1] := by rw [g84]; exact congrArg (fun x => some [x]) (if_pos u2)
  have fu : undV 1 a b c d = 1 := if_pos ⟨rfl, u1, u2.1, u2.2⟩
  obtain ⟨L0, H0, e0, x0⟩ := kor g47 (a := a) (b := b) (c := c) (d := (-2)) (by unfold in4 inI at *; omega) (by omega) (by omega) (by omega) (by omega)
  obtain ⟨L1, H1, e1, x1⟩ := kor g47 (a := (-9223372036854775807)) (b := b) (c := (-1)) (d := (-1)) (by unfold in4 inI at *; omega) (by omega) (by omega) (by omega) (by omega)
  obtain ⟨L2, H2, e2, x2⟩ := kor g47 (a := a) (b := b) (c := (max c 1)) (d := d) (by unfold in4 inI at *; omega) (by omega) (by omega) (by omega) (by omega)
  have y0 := chain1 x0
  have y1 := chain2 (U := fun v w => Box a b c (-2) v w ∨ Box (-9223372036854775807) b (-1) (-1) v w) y0 x1 (fun v w => Iff.rfl)
  have y2 := chain2 (U := fun v w => (Box a b c (-2) v w ∨ Box (-9223372036854775807) b (-1) (-1) v w) ∨ Box a b (max c 1) d v w) y1 x2 (fun v w => Iff.rfl)
  have hs : Ext Int.tdiv (DivS a b c d) _ _ := y2.congr (fun v w => by unfold DivS Box LST; omega)
  rw [quotR_ext hs (by unfold someD LST; omega)]
  simp [t48x21, T.den, B.den, A.den, E.den, Cm.den, f0, f1, f2, fu, sel_t, ad1 g83, ad2 g83, mn_eq, mx_eq, n, p, c2, m, e0, e1, e2, show ¬ 0 < min d (-1) by omega]
theorem c48x21_111110 {F : Nat → List Int → Option (List Int)} {a b c d : Int} (g47 : F 47 = cornersS) (g83 : F 83 = addS) (g84 : F 84 = inS) (g104 : F 104 = sizeS) (hr : in4 a b c d) (hab : a ≤ b) (hcd : c ≤ d) (u1 : (a ≤ -9223372036854775808 ∧ -9223372036854775808 ≤ b)) (n : c < 0) (p : 0 < d) (u2 : (c ≤ -1 ∧ -1 ≤ d)) (c2 : c < -1) (m : ¬ -9223372036854775808 < b) : t48x21.den F 0 [2, 1, a, b, c, d] = some (0, quotR 1 a b c d) := by
  obtain ⟨ha, hb, hc, hd⟩ := hr
  have ha1 : -9223372036854775808 ≤ a := ha.1
  have hb1 : -9223372036854775808 ≤ b := hb.1
  have f0 : F 84 [0, c, d] = some [trapV c d] := by rw [g84]; rfl
  have f1 : F 84 [-9223372036854775808, a, b] = some [1] := by rw [g84]; exact congrArg (fun x => some [x]) (if_pos u1)
  have f2 : F 84 [-1, c, d] = some [1] := by rw [g84]; exact congrArg (fun x => some [x]) (if_pos u2)
  have fu : undV 1 a b c d = 1 := if_pos ⟨rfl, u1, u2.1, u2.2⟩
  obtain ⟨L0, H0, e0, x0⟩ := kor g47 (a := a) (b := b) (c := c) (d := (-2)) (by unfold in4 inI at *; omega) (by omega) (by omega) (by omega) (by omega)
  obtain ⟨L1, H1, e1, x1⟩ := kor g47 (a := a) (b := b) (c := (max c 1)) (d := d) (by unfold in4 inI at *; omega) (by omega) (by omega) (by omega) (by omega)
  have y0 := chain1 x0
  have y1 := chain2 (U := fun v w => Box a b c (-2) v w ∨ Box a b (max c 1) d v w) y0 x1 (fun v w => Iff.rfl)
  have hs : Ext Int.tdiv (DivS a b c d) _ _ := y1.congr (fun v w => by unfold DivS Box LST; omega)
  rw [quotR_ext hs (by unfold someD LST; omega)]
  simp [t48x21, T.den, B.den, A.den, E.den, Cm.den, f0, f1, f2, fu, sel_t, ad1 g83, ad2 g83, mn_eq, mx_eq, n, p, c2, m, e0, e1, show ¬ 0 < min d (-1) by omega]
theorem c48x21_111101 {F : Nat → List Int → Option (List Int)} {a b c d : Int} (g47 : F 47 = cornersS) (g83 : F 83 = addS) (g84 : F 84 = inS) (g104 : F 104 = sizeS) (hr : in4 a b c d) (hab : a ≤ b) (hcd : c ≤ d) (u1 : (a ≤ -9223372036854775808 ∧ -9223372036854775808 ≤ b)) (n : c < 0) (p : 0 < d) (u2 : (c ≤ -1 ∧ -1 ≤ d)) (c2 : ¬ c < -1) (m : -9223372036854775808 < b) : t48x21.den F 0 [2, 1, a, b, c, d] = some (0, quotR 1 a b c d) := by
  obtain ⟨ha, hb, hc, hd⟩ := hr
  have ha1 : -9223372036854775808 ≤ a := ha.1
  have hb1 : -9223372036854775808 ≤ b := hb.1
  have f0 : F 84 [0, c, d] = some [trapV c d] := by rw [g84]; rfl
  have f1 : F 84 [-9223372036854775808, a, b] = some [1] := by rw [g84]; exact congrArg (fun x => some [x]) (if_pos u1)
  have f2 : F 84 [-1, c, d] = some [1] := by rw [g84]; exact congrArg (fun x => some [x]) (if_pos u2)
  have fu : undV 1 a b c d = 1 := if_pos ⟨rfl, u1, u2.1, u2.2⟩
  obtain ⟨L0, H0, e0, x0⟩ := kor g47 (a := (-9223372036854775807)) (b := b) (c := (-1)) (d := (-1)) (by unfold in4 inI at *; omega) (by omega) (by omega) (by omega) (by omega)
  obtain ⟨L1, H1, e1, x1⟩ := kor g47 (a := a) (b := b) (c := (max c 1)) (d := d) (by unfold in4 inI at *; omega) (by omega) (by omega) (by omega) (by omega)
  have y0 := chain1 x0
  have y1 := chain2 (U := fun v w => Box (-9223372036854775807) b (-1) (-1) v w ∨ Box a b (max c 1) d v w) y0 x1 (fun v w => Iff.rfl)
  have hs : Ext Int.tdiv (DivS a b c d) _ _ := y1.congr (fun v w => by unfold DivS Box LST; omega)
  rw [quotR_ext hs (by unfold someD LST; omega)]
  simp [t48x21, T.den, B.den, A.den, E.den, Cm.den, f0, f1, f2, fu, sel_t, ad1 g83, ad2 g83, mn_eq, mx_eq, n, p, c2, m, e0, e1, show ¬ 0 < min d (-1) by omega]
theorem c48x21_111100 {F : Nat → List Int → Option (List Int)} {a b c d : Int} (g47 : F 47 = cornersS) (g83 : F 83 = addS) (g84 : F 84 = inS) (g104 : F 104 = sizeS) (hr : in4 a b c d) (hab : a ≤ b) (hcd : c ≤ d) (u1 : (a ≤ -9223372036854775808 ∧ -9223372036854775808 ≤ b)) (n : c < 0) (p : 0 < d) (u2 : (c ≤ -1 ∧ -1 ≤ d)) (c2 : ¬ c < -1) (m : ¬ -9223372036854775808 < b) : t48x21.den F 0 [2, 1, a, b, c, d] = some (0, quotR 1 a b c d) := by
  obtain ⟨ha, hb, hc, hd⟩ := hr
  have ha1 : -9223372036854775808 ≤ a := ha.1
  have hb1 : -9223372036854775808 ≤ b := hb.1
  have f0 : F 84 [0, c, d] = some [trapV c d] := by rw [g84]; rfl
  have f1 : F 84 [-9223372036854775808, a, b] = some [1] := by rw [g84]; exact congrArg (fun x => some [x]) (if_pos u1)
  have f2 : F 84 [-1, c, d] = some [1] := by rw [g84]; exact congrArg (fun x => some [x]) (if_pos u2)
  have fu : undV 1 a b c d = 1 := if_pos ⟨rfl, u1, u2.1, u2.2⟩
  obtain ⟨L0, H0, e0, x0⟩ := kor g47 (a := a) (b := b) (c := (max c 1)) (d := d) (by unfold in4 inI at *; omega) (by omega) (by omega) (by omega) (by omega)
  have y0 := chain1 x0
  have hs : Ext Int.tdiv (DivS a b c d) _ _ := y0.congr (fun v w => by unfold DivS Box LST; omega)
  rw [quotR_ext hs (by unfold someD LST; omega)]
  simp [t48x21, T.den, B.den, A.den, E.den, Cm.den, f0, f1, f2, fu, sel_t, ad1 g83, ad2 g83, mn_eq, mx_eq, n, p, c2, m, e0, show ¬ 0 < min d (-1) by omega]
theorem c48x21_110111 {F : Nat → List Int → Option (List Int)} {a b c d : Int} (g47 : F 47 = cornersS) (g83 : F 83 = addS) (g84 : F 84 = inS) (g104 : F 104 = sizeS) (hr : in4 a b c d) (hab : a ≤ b) (hcd : c ≤ d) (u1 : (a ≤ -9223372036854775808 ∧ -9223372036854775808 ≤ b)) (n : c < 0) (p : ¬ 0 < d) (u2 : (c ≤ -1 ∧ -1 ≤ d)) (c2 : c < -1) (m : -9223372036854775808 < b) : t48x21.den F 0 [2, 1, a, b, c, d] = some (0, quotR 1 a b c d) := by
  obtain ⟨ha, hb, hc, hd⟩ := hr
  have ha1 : -9223372036854775808 ≤ a := ha.1
  have hb1 : -9223372036854775808 ≤ b := hb.1
  have f0 : F 84 [0, c, d] = some [trapV c d] := by rw [g84]; rfl
  have f1 : F 84 [-9223372036854775808, a, b] = some [1] := by rw [g84]; exact congrArg (fun x => some [x]) (if_pos u1)
  have f2 : F 84 [-1, c, d] = some [1] := by rw [g84]; exact congrArg (fun x => some [x]) (if_pos u2)
  have fu : undV 1 a b c d = 1 := if_pos ⟨rfl, u1, u2.1, u2.2⟩
  obtain ⟨L0, H0, e0, x0⟩ := kor g47 (a := a) (b := b) (c := c) (d := (-2)) (by unfold in4 inI at *; omega) (by omega) (by omega) (by omega) (by omega)
  obtain ⟨L1, H1, e1, x1⟩ := kor g47 (a := (-9223372036854775807)) (b := b) (c := (-1)) (d := (-1)) (by unfold in4 inI at *; omega) (by omega) (by omega) (by omega) (by omega)
  have y0 := chain1 x0
  have y1 := chain2 (U := fun v w => Box a b c (-2) v w ∨ Box (-9223372036854775807) b (-1) (-1) v w) y0 x1 (fun v w => Iff.rfl)
  have hs : Ext Int.tdiv (DivS a b c d) _ _ := y1.congr (fun v w => by unfold DivS Box LST; omega)
  rw [quotR_ext hs (by unfold someD LST; omega)]
  simp [t48x21, T.den, B.den, A.den, E.den, Cm.den, f0, f1, f2, fu, sel_t, ad1 g83, ad2 g83, mn_eq, mx_eq, n, p, c2, m, e0, e1, show ¬ 0 < min d (-1) by omega]
theorem c48x21_110110 {F : Nat → List Int → Option (List Int)} {a b c d : Int} (g47 : F 47 = cornersS) (g83 : F 83 = addS) (g84 : F 84 = inS) (g104 : F 104 = sizeS) (hr : in4 a b c d) (hab : a ≤ b) (hcd : c ≤ d) (u1 : (a ≤ -9223372036854775808 ∧ -9223372036854775808 ≤ b)) (n : c < 0) (p : ¬ 0 < d) (u2 : (c ≤ -1 ∧ -1 ≤ d)) (c2 : c < -1) (m : ¬ -9223372036854775808 < b) : t48x21.den F 0 [2, 1, a, b, c, d] = some (0, quotR 1 a b c d) := by
  obtain ⟨ha, hb, hc, hd⟩ := hr
  have ha1 : -9223372036854775808 ≤ a := ha.1
  have hb1 : -9223372036854775808 ≤ b := hb.1
  have f0 : F 84 [0, c, d] = some [trapV c d] := by rw [g84]; rfl
  have f1 : F 84 [-9223372036854775808, a, b] = some [1] := by rw [g84]; exact congrArg (fun x => some [x]) (if_pos u1)
  have f2 : F 84 [-1, c, d] = some [1] := by rw [g84]; exact congrArg (fun x => some [x]) (if_pos u2)
  have fu : undV 1 a b c d = 1 := if_pos ⟨rfl, u1, u2.1, u2.2⟩
  obtain ⟨L0, H0, e0, x0⟩ := kor g47 (a := a) (b := b) (c := c) (d := (-2)) (by unfold in4 inI at *; omega) (by omega) (by omega) (by omega) (by omega)
  have y0 := chain1 x0
  have hs : Ext Int.tdiv (DivS a b c d) _ _ := y0.congr (fun v w => by unfold DivS Box LST; omega)
  rw [quotR_ext hs (by unfold someD LST; omega)]
  simp [t48x21, T.den, B.den, A.den, E.den, Cm.den, f0, f1, f2, fu, sel_t, ad1 g83, ad2 g83, mn_eq, mx_eq, n, p, c2, m, e0, show ¬ 0 < min d (-1) by omega]
theorem c48x21_110101 {F : Nat → List Int → Option (List Int)} {a b c d : Int} (g47 : F 47 = cornersS) (g83 : F 83 = addS) (g84 : F 84 = inS) (g104 : F 104 = sizeS) (hr : in4 a b c d) (hab : a ≤ b) (hcd : c ≤ d) (u1 : (a ≤ -9223372036854775808 ∧ -9223372036854775808 ≤ b)) (n : c < 0) (p : ¬ 0 < d) (u2 : (c ≤ -1 ∧ -1 ≤ d)) (c2 : ¬ c < -1) (m : -9223372036854775808 < b) : t48x21.den F 0 [2, 1, a, b, c, d] = some (0, quotR 1 a b c d) := by
  obtain ⟨ha, hb, hc, hd⟩ := hr
  have ha1 : -9223372036854775808 ≤ a := ha.1
  have hb1 : -9223372036854775808 ≤ b := hb.1
  have f0 : F 84 [0, c, d] = some [trapV c d] := by rw [g84]; rfl
  have f1 : F 84 [-9223372036854775808, a, b] = some [1] := by rw [g84]; exact congrArg (fun x => some [x]) (if_pos u1)
  have f2 : F 84 [-1, c, d] = some [1] := by rw [g84]; exact congrArg (fun x => some [x]) (if_pos u2)
  have fu : undV 1 a b c d = 1 := if_pos ⟨rfl, u1, u2.1, u2.2⟩
  obtain ⟨L0, H0, e0, x0⟩ := kor g47 (a := (-9223372036854775807)) (b := b) (c := (-1)) (d := (-1)) (by unfold in4 inI at *; omega) (by omega) (by omega) (by omega) (by omega)
  have y0 := chain1 x0
  have hs : Ext Int.tdiv (DivS a b c d) _ _ := y0.congr (fun v w => by unfold DivS Box LST; omega)
  rw [quotR_ext hs (by unfold someD LST; omega)]
  simp [t48x21, T.den, B.den, A.den, E.den, Cm.den, f0, f1, f2, fu, sel_t, ad1 g83, ad2 g83, mn_eq, mx_eq, n, p, c2, m, e0, show ¬ 0 < min d (-1) by omega]
theorem c48x21_110100 {F : Nat → List Int → Option (List Int)} {a b c d : Int} (g47 : F 47 = cornersS) (g83 : F 83 = addS) (g84 : F 84 = inS) (g104 : F 104 = sizeS) (hr : in4 a b c d) (hab : a ≤ b) (hcd : c ≤ d) (u1 : (a ≤ -9223372036854775808 ∧ -9223372036854775808 ≤ b)) (n : c < 0) (p : ¬ 0 < d) (u2 : (c ≤ -1 ∧ -1 ≤ d)) (c2 : ¬ c < -1) (m : ¬ -9223372036854775808 < b) : t48x21.den F 0 [2, 1, a, b, c, d] = some (0, quotR 1 a b c d) := by
  obtain ⟨ha, hb, hc, hd⟩ := hr
  have ha1 : -9223372036854775808 ≤ a := ha.1
  have hb1 : -9223372036854775808 ≤ b := hb.1
  have f0 : F 84 [0, c, d] = some [trapV c d] := by rw [g84]; rfl
  have f1 : F 84 [-9223372036854775808, a, b] = some [1] := by rw [g84]; exact congrArg (fun x => some [x]) (if_pos u1)
  have f2 : F 84 [-1, c, d] = some [1] := by rw [g84]; exact congrArg (fun x => some [x]) (if_pos u2)
  have fu : undV 1 a b c d = 1 := if_pos ⟨rfl, u1, u2.1, u2.2⟩
  have hn : ¬ someD b c d := by unfold someD LST; omega
  have q : quotR 1 a b c d = [0, 0, 0, trapV c d, undV 1 a b c d] := quotR_eq0 ha hab hcd hn
  rw [q]
  simp [t48x21, T.den, B.den, A.den, E.den, Cm.den, f0, f1, f2, fu, sel_t, ad1 g83, ad2 g83, mn_eq, mx_eq, n, p, c2, m, show ¬ 0 < min d (-1) by omega]
theorem c48x21_110012 {F : Nat → List Int → Option (List Int)} {a b c d : Int} (g47 : F 47 = cornersS) (g83 : F 83 = addS) (g84 : F 84 = inS) (g104 : F 104 = sizeS) (hr : in4 a b c d) (hab : a ≤ b) (hcd : c ≤ d) (u1 : (a ≤ -9223372036854775808 ∧ -9223372036854775808 ≤ b)) (n : c < 0) (p : ¬ 0 < d) (u2 : ¬ (c ≤ -1 ∧ -1 ≤ d)) (c2 : c < -1) : t48x21.den F 0 [2, 1, a, b, c, d] = some (0, quotR 1 a b c d) := by
  obtain ⟨ha, hb, hc, hd⟩ := hr
  have ha1 : -9223372036854775808 ≤ a := ha.1
  have hb1 : -9223372036854775808 ≤ b := hb.1
  have f0 : F 84 [0, c, d] = some [trapV c d] := by rw [g84]; rfl
  have f1 : F 84 [-9223372036854775808, a, b] = some [1] := by rw [g84]; exact congrArg (fun x => some [x]) (if_pos u1)
  have f2 : F 84 [-1, c, d] = some [0] := by rw [g84]; exact congrArg (fun x => some [x]) (if_neg u2)
  have fu : undV 1 a b c d = 0 := if_neg (fun q => by omega)
  obtain ⟨L0, H0, e0, x0⟩ := kor g47 (a := a) (b := b) (c := c) (d := (min d (-1))) (by unfold in4 inI at *; omega) (by omega) (by omega) (by omega) (by omega)
  have y0 := chain1 x0
  have hs : Ext Int.tdiv (DivS a b c d) _ _ := y0.congr (fun v w => by unfold DivS Box LST; omega)
  rw [quotR_ext hs (by unfold someD LST; omega)]
  simp [t48x21, T.den, B.den, A.den, E.den, Cm.den, f0, f1, f2, fu, sel_t, ad1 g83, ad2 g83, mn_eq, mx_eq, n, p, c2, e0, show ¬ 0 < min d (-1) by omega]
theorem c48x21_101002 {F : Nat → List Int → Option (List Int)} {a b c d : Int} (g47 : F 47 = cornersS) (g83 : F 83 = addS) (g84 : F 84 = inS) (g104 : F 104 = sizeS) (hr : in4 a b c d) (hab : a ≤ b) (hcd : c ≤ d) (u1 : (a ≤ -9223372036854775808 ∧ -9223372036854775808 ≤ b)) (n : ¬ c < 0) (p : 0 < d) (u2 : ¬ (c ≤ -1 ∧ -1 ≤ d)) (c2 : ¬ c < -1) : t48x21.den F 0 [2, 1, a, b, c, d] = some (0, quotR 1 a b c d) := by
  obtain ⟨ha, hb, hc, hd⟩ := hr
  have ha1 : -9223372036854775808 ≤ a := ha.1
  have hb1 : -9223372036854775808 ≤ b := hb.1
  have f0 : F 84 [0, c, d] = some [trapV c d] := by rw [g84]; rfl
  have f1 : F 84 [-9223372036854775808, a, b] = some [1] := by rw [g84]; exact congrArg (fun x => some [x]) (if_pos u1)
  have f2 : F 84 [-1, c, d] = some [0] := by rw [g84]; exact congrArg (fun x => some [x]) (if_neg u2)
  have fu : undV 1 a b c d = 0 := if_neg (fun q => by omega)
  obtain ⟨L0, H0, e0, x0⟩ := kor g47 (a := a) (b := b) (c := (max c 1)) (d := d) (by unfold in4 inI at *; omega) (by omega) (by omega) (by omega) (by omega)
  have y0 := chain1 x0
  have hs : Ext Int.tdiv (DivS a b c d) _ _ := y0.congr (fun v w => by unfold DivS Box LST; omega)
  rw [quotR_ext hs (by unfold someD LST; omega)]
  simp [t48x21, T.den, B.den, A.den, E.den, Cm.den, f0, f1, f2, fu, sel_t, ad1 g83, ad2 g83, mn_eq, mx_eq, n, p, c2, e0]
theorem c48x21_100002 {F : Nat → List Int → Option (List Int)} {a b c d : Int} (g47 : F 47 = cornersS) (g83 : F 83 = addS) (g84 : F 84 = inS) (g104 : F 104 = sizeS) (hr : in4 a b c d) (hab : a ≤ b) (hcd : c ≤ d) (u1 : (a ≤ -9223372036854775808 ∧ -9223372036854775808 ≤ b)) (n : ¬ c < 0) (p : ¬ 0 < d) (u2 : ¬ (c ≤ -1 ∧ -1 ≤ d)) (c2 : ¬ c < -1) : t48x21.den F 0 [2, 1, a, b, c, d] = some (0, quotR 1 a b c d) := by
  obtain ⟨ha, hb, hc, hd⟩ := hr
  have ha1 : -9223372036854775808 ≤ a := ha.1
  have hb1 : -9223372036854775808 ≤ b := hb.1
  have f0 : F 84 [0, c, d] = some [trapV c d] := by rw [g84]; rfl
  have f1 : F 84 [-9223372036854775808, a, b] = some [1] := by rw [g84]; exact congrArg (fun x => some [x]) (if_pos u1)
  have f2 : F 84 [-1, c, d] = some [0] := by rw [g84]; exact congrArg (fun x => some [x]) (if_neg u2)
  have fu : undV 1 a b c d = 0 := if_neg (fun q => by omega)
  have hn : ¬ someD b c d := by unfold someD LST; omega
  have q : quotR 1 a b c d = [0, 0, 0, trapV c d, undV 1 a b c d] := quotR_eq0 ha hab hcd hn
  rw [q]
  simp [t48x21, T.den, B.den, A.den, E.den, Cm.den, f0, f1, f2, fu, sel_t, ad1 g83, ad2 g83, mn_eq, mx_eq, n, p, c2]
theorem c48x21_011112 {F : Nat → List Int → Option (List Int)} {a b c d : Int} (g47 : F 47 = cornersS) (g83 : F 83 = addS) (g84 : F 84 = inS) (g104 : F 104 = sizeS) (hr : in4 a b c d) (hab : a ≤ b) (hcd : c ≤ d) (u1 : ¬ (a ≤ -9223372036854775808 ∧ -9223372036854775808 ≤ b)) (n : c < 0) (p : 0 < d) (u2 : (c ≤ -1 ∧ -1 ≤ d)) (c2 : c < -1) : t48x21.den F 0 [2, 1, a, b, c, d] = some (0, quotR 1 a b c d) := by
  obtain ⟨ha, hb, hc, hd⟩ := hr
  have ha1 : -9223372036854775808 ≤ a := ha.1
  have hb1 : -9223372036854775808 ≤ b := hb.1
  have f0 : F 84 [0, c, d] = some [trapV c d] := by rw [g84]; rfl
  have f1 : F 84 [-9223372036854775808, a, b] = some [0] := by rw [g84]; exact congrArg (fun x => some [x]) (if_neg u1)
  have fu : undV 1 a b c d = 0 := if_neg (fun q => by omega)
  obtain ⟨L0, H0, e0, x0⟩ := kor g47 (a := a) (b := b) (c := c) (d := (min d (-1))) (by unfold in4 inI at *; omega) (by omega) (by omega) (by omega) (by omega)
  obtain ⟨L1, H1, e1, x1⟩ := kor g47 (a := a) (b := b) (c := (max c 1)) (d := d) (by unfold in4 inI at *; omega) (by omega) (by omega) (by omega) (by omega)
  have y0 := chain1 x0
  have y1 := chain2 (U := fun v w => Box a b c (min d (-1)) v w ∨ Box a b (max c 1) d v w) y0 x1 (fun v w => Iff.rfl)
  have hs : Ext Int.tdiv (DivS a b c d) _ _ := y1.congr (fun v w => by unfold DivS Box LST; omega)
  rw [quotR_ext hs (by unfold someD LST; omega)]
  simp [t48x21, T.den, B.den, A.den, E.den, Cm.den, f0, f1, fu, sel_t, ad1 g83, ad2 g83, mn_eq, mx_eq, n, p, c2, e0, e1, show ¬ 0 < min d (-1) by omega]
theorem c48x21_011102 {F : Nat → List Int → Option (List Int)} {a b c d : Int} (g47 : F 47 = cornersS) (g83 : F 83 = addS) (g84 : F 84 = inS) (g104 : F 104 = sizeS) (hr : in4 a b c d) (hab : a ≤ b) (hcd : c ≤ d) (u1 : ¬ (a ≤ -9223372036854775808 ∧ -9223372036854775808 ≤ b)) (n : c < 0) (p : 0 < d) (u2 : (c ≤ -1 ∧ -1 ≤ d)) (c2 : ¬ c < -1) : t48x21.den F 0 [2, 1, a, b, c, d] = some (0, quotR 1 a b c d) := by
  obtain ⟨ha, hb, hc, hd⟩ := hr
  have ha1 : -9223372036854775808 ≤ a := ha.1
  have hb1 : -9223372036854775808 ≤ b := hb.1
  have f0 : F 84 [0, c, d] = some [trapV c d] := by rw [g84]; rfl
  have f1 : F 84 [-9223372036854775808, a, b] = some [0] := by rw [g84]; exact congrArg (fun x => some [x]) (if_neg u1)
  have fu : undV 1 a b c d = 0 := if_neg (fun q => by omega)
  obtain ⟨L0, H0, e0, x0⟩ := kor g47 (a := a) (b := b) (c := c) (d := (min d (-1))) (by unfold in4 inI at *; omega) (by omega) (by omega) (by omega) (by omega)
  obtain ⟨L1, H1, e1, x1⟩ := kor g47 (a := a) (b := b) (c := (max c 1)) (d := d) (by unfold in4 inI at *; omega) (by omega) (by omega) (by omega) (by omega)
  have y0 := chain1 x0
  have y1 := chain2 (U := fun v w => Box a b c (min d (-1)) v w ∨ Box a b (max c 1) d v w) y0 x1 (fun v w => Iff.rfl)
  have hs : Ext Int.tdiv (DivS a b c d) _ _ := y1.congr (fun v w => by unfold DivS Box LST; omega)
  rw [quotR_ext hs (by unfold someD LST; omega)]
  simp [t48x21, T.den, B.den, A.den, E.den, Cm.den, f0, f1, fu, sel_t, ad1 g83, ad2 g83, mn_eq, mx_eq, n, p, c2, e0, e1, show ¬ 0 < min d (-1) by omega]
theorem c48x21_010112 {F : Nat → List Int → Option (List Int)} {a b c d : Int} (g47 : F 47 = cornersS) (g83 : F 83 = addS) (g84 : F 84 = inS) (g104 : F 104 = sizeS) (hr : in4 a b c d) (hab : a ≤ b) (hcd : c ≤ d) (u1 : ¬ (a ≤ -9223372036854775808 ∧ -9223372036854775808 ≤ b)) (n : c < 0) (p : ¬ 0 < d) (u2 : (c ≤ -1 ∧ -1 ≤ d)) (c2 : c < -1) : t48x21.den F 0 [2, 1, a, b, c, d] = some (0, quotR 1 a b c d) := by
  obtain ⟨ha, hb, hc, hd⟩ := hr
  have ha1 : -9223372036854775808 ≤ a := ha.1
  have hb1 : -9223372036854775808 ≤ b := hb.1
  have f0 : F 84 [0, c, d] = some [trapV c d] := by rw [g84]; rfl
  have f1 : F 84 [-9223372036854775808, a, b] = some [0] := by rw [g84]; exact congrArg (fun x => some [x]) (if_neg u1)
  have fu : undV 1 a b c d = 0 := if_neg (fun q => by omega)
  obtain ⟨L0, H0, e0, x0⟩ := kor g47 (a := a) (b := b) (c := c) (d := (min d (-1))) (by unfold in4 inI at *; omega) (by omega) (by omega) (by omega) (by omega)
  have y0 := chain1 x0
  have hs : Ext Int.tdiv (DivS a b c d) _ _ := y0.congr (fun v w => by unfold DivS Box LST; omega)
  rw [quotR_ext hs (by unfold someD LST; omega)]
  simp [t48x21, T.den, B.den, A.den, E.den, Cm.den, f0, f1, fu, sel_t, ad1 g83, ad2 g83, mn_eq, mx_eq, n, p, c2, e0, show ¬ 0 < min d (-1) by omega]
theorem c48x21_010102 {F : Nat → List Int → Option (List Int)} {a b c d : Int} (g47 : F 47 = cornersS) (g83 : F 83 = addS) (g84 : F 84 = inS) (g104 : F 104 = sizeS) (hr : in4 a b c d) (hab : a ≤ b) (hcd : c ≤ d) (u1 : ¬ (a ≤ -9223372036854775808 ∧ -9223372036854775808 ≤ b)) (n : c < 0) (p : ¬ 0 < d) (u2 : (c ≤ -1 ∧ -1 ≤ d)) (c2 : ¬ c < -1) : t48x21.den F 0 [2, 1, a, b, c, d] = some (0, quotR 1 a b c d) := by
  obtain ⟨ha, hb, hc, hd⟩ := hr
  have ha1 : -9223372036854775808 ≤ a := ha.1
  have hb1 : -9223372036854775808 ≤ b := hb.1
  have f0 : F 84 [0, c, d] = some [trapV c d] := by rw [g84]; rfl
  have f1 : F 84 [-9223372036854775808, a, b] = some [0] := by rw [g84]; exact congrArg (fun x => some [x]) (if_neg u1)
  have fu : undV 1 a b c d = 0 := if_neg (fun q => by omega)
  obtain ⟨L0, H0, e0, x0⟩ := kor g47 (a := a) (b := b) (c := c) (d := (min d (-1))) (by unfold in4 inI at *; omega) (by omega) (by omega) (by omega) (by omega)
  have y0 := chain1 x0
  have hs : Ext Int.tdiv (DivS a b c d) _ _ := y0.congr (fun v w => by unfold DivS Box LST; omega)
  rw [quotR_ext hs (by unfold someD LST; omega)]
  simp [t48x21, T.den, B.den, A.den, E.den, Cm.den, f0, f1, fu, sel_t, ad1 g83, ad2 g83, mn_eq, mx_eq, n, p, c2, e0, show ¬ 0 < min d (-1) by omega]
theorem c48x21_010012 {F : Nat → List Int → Option (List Int)} {a b c d : Int} (g47 : F 47 = cornersS) (g83 : F 83 = addS) (g84 : F 84 = inS) (g104 : F 104 = sizeS) (hr : in4 a b c d) (hab : a ≤ b) (hcd : c ≤ d) (u1 : ¬ (a ≤ -9223372036854775808 ∧ -9223372036854775808 ≤ b)) (n : c < 0) (p : ¬ 0 < d) (u2 : ¬ (c ≤ -1 ∧ -1 ≤ d)) (c2 : c < -1) : t48x21.den F 0 [2, 1, a, b, c, d] = some (0, quotR 1 a b c d) := by
  obtain ⟨ha, hb, hc, hd⟩ := hr
  have ha1 : -9223372036854775808 ≤ a := ha.1
  have hb1 : -9223372036854775808 ≤ b := hb.1
  have f0 : F 84 [0, c, d] = some [trapV c d] := by rw [g84]; rfl
  have f1 : F 84 [-9223372036854775808, a, b] = some [0] := by rw [g84]; exact congrArg (fun x => some [x]) (if_neg u1)
  have fu : undV 1 a b c d = 0 := if_neg (fun q => by omega)
  obtain ⟨L0, H0, e0, x0⟩ := kor g47 (a := a) (b := b) (c := c) (d := (min d (-1))) (by unfold in4 inI at *; omega) (by omega) (by omega) (by omega) (by omega)
  have y0 := chain1 x0
  have hs : Ext Int.tdiv (DivS a b c d) _ _ := y0.congr (fun v w => by unfold DivS Box LST; omega)
  rw [quotR_ext hs (by unfold someD LST; omega)]
  simp [t48x21, T.den, B.den, A.den, E.den, Cm.den, f0, f1, fu, sel_t, ad1 g83, ad2 g83, mn_eq, mx_eq, n, p, c2, e0, show ¬ 0 < min d (-1) by omega]
theorem c48x21_001002 {F : Nat → List Int → Option (List Int)} {a b c d : Int} (g47 : F 47 = cornersS) (g83 : F 83 = addS) (g84 : F 84 = inS) (g104 : F 104 = sizeS) (hr : in4 a b c d) (hab : a ≤ b) (hcd : c ≤ d) (u1 : ¬ (a ≤ -9223372036854775808 ∧ -9223372036854775808 ≤ b)) (n : ¬ c < 0) (p : 0 < d) (u2 : ¬ (c ≤ -1 ∧ -1 ≤ d)) (c2 : ¬ c < -1) : t48x21.den F 0 [2, 1, a, b, c, d] = some (0, quotR 1 a b c d) := by
  obtain ⟨ha, hb, hc, hd⟩ := hr
  have ha1 : -9223372036854775808 ≤ a := ha.1
  have hb1 : -9223372036854775808 ≤ b := hb.1
  have f0 : F 84 [0, c, d] = some [trapV c d] := by rw [g84]; rfl
  have f1 : F 84 [-9223372036854775808, a, b] = some [0] := by rw [g84]; exact congrArg (fun x => some [x]) (if_neg u1)
  have fu : undV 1 a b c d = 0 := if_neg (fun q => by omega)
  obtain ⟨L0, H0, e0, x0⟩ := kor g47 (a := a) (b := b) (c := (max c 1)) (d := d) (by unfold in4 inI at *; omega) (by omega) (by omega) (by omega) (by omega)
  have y0 := chain1 x0
  have hs : Ext Int.tdiv (DivS a b c d) _ _ := y0.congr (fun v w => by unfold DivS Box LST; omega)
  rw [quotR_ext hs (by unfold someD LST; omega)]
  simp [t48x21, T.den, B.den, A.den, E.den, Cm.den, f0, f1, fu, sel_t, ad1 g83, ad2 g83, mn_eq, mx_eq, n, p, c2, e0]
theorem c48x21_000002 {F : Nat → List Int → Option (List Int)} {a b c d : Int} (g47 : F 47 = cornersS) (g83 : F 83 = addS) (g84 : F 84 = inS) (g104 : F 104 = sizeS) (hr : in4 a b c d) (hab : a ≤ b) (hcd : c ≤ d) (u1 : ¬ (a ≤ -9223372036854775808 ∧ -9223372036854775808 ≤ b)) (n : ¬ c < 0) (p : ¬ 0 < d) (u2 : ¬ (c ≤ -1 ∧ -1 ≤ d)) (c2 : ¬ c < -1) : t48x21.den F 0 [2, 1, a, b, c, d] = some (0, quotR 1 a b c d) := by
  obtain ⟨ha, hb, hc, hd⟩ := hr
  have ha1 : -9223372036854775808 ≤ a := ha.1
  have hb1 : -9223372036854775808 ≤ b := hb.1
  have f0 : F 84 [0, c, d] = some [trapV c d] := by rw [g84]; rfl
  have f1 : F 84 [-9223372036854775808, a, b] = some [0] := by rw [g84]; exact congrArg (fun x => some [x]) (if_neg u1)
  have fu : undV 1 a b c d = 0 := if_neg (fun q => by omega)
  have hn : ¬ someD b c d := by unfold someD LST; omega
  have q : quotR 1 a b c d = [0, 0, 0, trapV c d, undV 1 a b c d] := quotR_eq0 ha hab hcd hn
  rw [q]
  simp [t48x21, T.den, B.den, A.den, E.den, Cm.den, f0, f1, fu, sel_t, ad1 g83, ad2 g83, mn_eq, mx_eq, n, p, c2]
theorem c48x21 {F : Nat → List Int → Option (List Int)} {a b c d : Int} (g47 : F 47 = cornersS) (g83 : F 83 = addS) (g84 : F 84 = inS) (g104 : F 104 = sizeS) (hr : in4 a b c d) (hab : a ≤ b) (hcd : c ≤ d) : t48x21.den F 0 [2, 1, a, b, c, d] = some (0, quotR 1 a b c d) := by
  by_cases u1 : a ≤ -9223372036854775808 ∧ -9223372036854775808 ≤ b <;> by_cases n : c < 0 <;> by_cases p : 0 < d <;> by_cases u2 : c ≤ -1 ∧ -1 ≤ d <;> by_cases c2 : c < -1 <;> by_cases m : -9223372036854775808 < b <;> first
    | (exfalso; omega)
    | exact c48x21_111111 g47 g83 g84 g104 hr hab hcd u1 n p u2 c2 m
    | exact c48x21_111110 g47 g83 g84 g104 hr hab hcd u1 n p u2 c2 m
    | exact c48x21_111101 g47 g83 g84 g104 hr hab hcd u1 n p u2 c2 m
    | exact c48x21_111100 g47 g83 g84 g104 hr hab hcd u1 n p u2 c2 m
    | exact c48x21_110111 g47 g83 g84 g104 hr hab hcd u1 n p u2 c2 m
    | exact c48x21_110110 g47 g83 g84 g104 hr hab hcd u1 n p u2 c2 m
    | exact c48x21_110101 g47 g83 g84 g104 hr hab hcd u1 n p u2 c2 m
    | exact c48x21_110100 g47 g83 g84 g104 hr hab hcd u1 n p u2 c2 m
    | exact c48x21_110012 g47 g83 g84 g104 hr hab hcd u1 n p u2 c2
    | exact c48x21_101002 g47 g83 g84 g104 hr hab hcd u1 n p u2 c2
    | exact c48x21_100002 g47 g83 g84 g104 hr hab hcd u1 n p u2 c2
    | exact c48x21_011112 g47 g83 g84 g104 hr hab hcd u1 n p u2 c2
    | exact c48x21_011102 g47 g83 g84 g104 hr hab hcd u1 n p u2 c2
    | exact c48x21_010112 g47 g83 g84 g104 hr hab hcd u1 n p u2 c2
    | exact c48x21_010102 g47 g83 g84 g104 hr hab hcd u1 n p u2 c2
    | exact c48x21_010012 g47 g83 g84 g104 hr hab hcd u1 n p u2 c2
    | exact c48x21_001002 g47 g83 g84 g104 hr hab hcd u1 n p u2 c2
    | exact c48x21_000002 g47 g83 g84 g104 hr hab hcd u1 n p u2 c2
theorem c48x22_011112 {F : Nat → List Int → Option (List Int)} {a b c d : Int} (g47 : F 47 = cornersS) (g83 : F 83 = addS) (g84 : F 84 = inS) (g104 : F 104 = sizeS) (hr : in4 a b c d) (hab : a ≤ b) (hcd : c ≤ d) (n : c < 0) (p : 0 < d) (u2 : (c ≤ -1 ∧ -1 ≤ d)) (c2 : c < -1) (k2 : 0 ≤ a) : t48x22.den F 0 [2, 2, a, b, c, d] = some (0, quotR 2 a b c d) := by
  obtain ⟨ha, hb, hc, hd⟩ := hr
  have ha1 : -9223372036854775808 ≤ a := ha.1
  have hb1 : -9223372036854775808 ≤ b := hb.1
  have f0 : F 84 [0, c, d] = some [trapV c d] := by rw [g84]; rfl
  have fu : undV 2 a b c d = 0 := if_neg (fun q => absurd q.1 (by decide))
  obtain ⟨L0, H0, e0, x0⟩ := kor g47 (a := a) (b := b) (c := c) (d := (min d (-1))) (by unfold in4 inI at *; omega) (by omega) (by omega) (by omega) (by omega)
  obtain ⟨L1, H1, e1, x1⟩ := kor g47 (a := a) (b := b) (c := (max c 1)) (d := d) (by unfold in4 inI at *; omega) (by omega) (by omega) (by omega) (by omega)
  have y0 := chain1 x0
  have y1 := chain2 (U := fun v w => Box a b c (min d (-1)) v w ∨ Box a b (max c 1) d v w) y0 x1 (fun v w => Iff.rfl)
  have hs : Ext Int.tdiv (DivS a b c d) _ _ := y1.congr (fun v w => by unfold DivS Box LST; omega)
  rw [quotR_ext hs (by unfold someD LST; omega)]
  simp [t48x22, T.den, B.den, A.den, E.den, Cm.den, f0, fu, sel_t, ad1 g83, ad2 g83, mn_eq, mx_eq, n, p, c2, e0, e1, show ¬ 0 < min d (-1) by omega]
theorem c48x22_011102 {F : Nat → List Int → Option (List Int)} {a b c d : Int} (g47 : F 47 = cornersS) (g83 : F 83 = addS) (g84 : F 84 = inS) (g104 : F 104 = sizeS) (hr : in4 a b c d) (hab : a ≤ b) (hcd : c ≤ d) (n : c < 0) (p : 0 < d) (u2 : (c ≤ -1 ∧ -1 ≤ d)) (c2 : ¬ c < -1) (k2 : 0 ≤ a) : t48x22.den F 0 [2, 2, a, b, c, d] = some (0, quotR 2 a b c d) := by
  obtain ⟨ha, hb, hc, hd⟩ := hr
  have ha1 : -9223372036854775808 ≤ a := ha.1
  have hb1 : -9223372036854775808 ≤ b := hb.1
  have f0 : F 84 [0, c, d] = some [trapV c d] := by rw [g84]; rfl
  have fu : undV 2 a b c d = 0 := if_neg (fun q => absurd q.1 (by decide))
  obtain ⟨L0, H0, e0, x0⟩ := kor g47 (a := a) (b := b) (c := c) (d := (min d (-1))) (by unfold in4 inI at *; omega) (by omega) (by omega) (by omega) (by omega)
  obtain ⟨L1, H1, e1, x1⟩ := kor g47 (a := a) (b := b) (c := (max c 1)) (d := d) (by unfold in4 inI at *; omega) (by omega) (by omega) (by omega) (by omega)
  have y0 := chain1 x0
  have y1 := chain2 (U := fun v w => Box a b c (min d (-1)) v w ∨ Box a b (max c 1) d v w) y0 x1 (fun v w => Iff.rfl)
  have hs : Ext Int.tdiv (DivS a b c d) _ _ := y1.congr (fun v w => by unfold DivS Box LST; omega)
  rw [quotR_ext hs (by unfold someD LST; omega)]
  simp [t48x22, T.den, B.den, A.den, E.den, Cm.den, f0, fu, sel_t, ad1 g83, ad2 g83, mn_eq, mx_eq, n, p, c2, e0, e1, show ¬ 0 < min d (-1) by omega]
theorem c48x22_010112 {F : Nat → List Int → Option (List Int)} {a b c d : Int} (g47 : F 47 = cornersS) (g83 : F 83 = addS) (g84 : F 84 = inS) (g104 : F 104 = sizeS) (hr : in4 a b c d) (hab : a ≤ b) (hcd : c ≤ d) (n : c < 0) (p : ¬ 0 < d) (u2 : (c ≤ -1 ∧ -1 ≤ d)) (c2 : c < -1) (k2 : 0 ≤ a) : t48x22.den F 0 [2, 2, a, b, c, d] = some (0, quotR 2 a b c d) := by
  obtain ⟨ha, hb, hc, hd⟩ := hr
  have ha1 : -9223372036854775808 ≤ a := ha.1
  have hb1 : -9223372036854775808 ≤ b := hb.1
  have f0 : F 84 [0, c, d] = some [trapV c d] := by rw [g84]; rfl
  have fu : undV 2 a b c d = 0 := if_neg (fun q => absurd q.1 (by decide))
  obtain ⟨L0, H0, e0, x0⟩ := kor g47 (a := a) (b := b) (c := c) (d := (min d (-1))) (by unfold in4 inI at *; omega) (by omega) (by omega) (by omega) (by omega)
  have y0 := chain1 x0
  have hs : Ext Int.tdiv (DivS a b c d) _ _ := y0.congr (fun v w => by unfold DivS Box LST; omega)
  rw [quotR_ext hs (by unfold someD LST; omega)]
  simp [t48x22, T.den, B.den, A.den, E.den, Cm.den, f0, fu, sel_t, ad1 g83, ad2 g83, mn_eq, mx_eq, n, p, c2, e0, show ¬ 0 < min d (-1) by omega]
theorem c48x22_010102 {F : Nat → List Int → Option (List Int)} {a b c d : Int} (g47 : F 47 = cornersS) (g83 : F 83 = addS) (g84 : F 84 = inS) (g104 : F 104 = sizeS) (hr : in4 a b c d) (hab : a ≤ b) (hcd : c ≤ d) (n : c < 0) (p : ¬ 0 < d) (u2 : (c ≤ -1 ∧ -1 ≤ d)) (c2 : ¬ c < -1) (k2 : 0 ≤ a) : t48x22.den F 0 [2, 2, a, b, c, d] = some (0, quotR 2 a b c d) := by
  obtain ⟨ha, hb, hc, hd⟩ := hr
  have ha1 : -9223372036854775808 ≤ a := ha.1
  have hb1 : -9223372036854775808 ≤ b := hb.1
  have f0 : F 84 [0, c, d] = some [trapV c d] := by rw [g84]; rfl
  have fu : undV 2 a b c d = 0 := if_neg (fun q => absurd q.1 (by decide))
  obtain ⟨L0, H0, e0, x0⟩ := kor g47 (a := a) (b := b) (c := c) (d := (min d (-1))) (by unfold in4 inI at *; omega) (by omega) (by omega) (by omega) (by omega)
  have y0 := chain1 x0
  have hs : Ext Int.tdiv (DivS a b c d) _ _ := y0.congr (fun v w => by unfold DivS Box LST; omega)
  rw [quotR_ext hs (by unfold someD LST; omega)]
  simp [t48x22, T.den, B.den, A.den, E.den, Cm.den, f0, fu, sel_t, ad1 g83, ad2 g83, mn_eq, mx_eq, n, p, c2, e0, show ¬ 0 < min d (-1) by omega]
theorem c48x22_010012 {F : Nat → List Int → Option (List Int)} {a b c d : Int} (g47 : F 47 = cornersS) (g83 : F 83 = addS) (g84 : F 84 = inS) (g104 : F 104 = sizeS) (hr : in4 a b c d) (hab : a ≤ b) (hcd : c ≤ d) (n : c < 0) (p : ¬ 0 < d) (u2 : ¬ (c ≤ -1 ∧ -1 ≤ d)) (c2 : c < -1) (k2 : 0 ≤ a) : t48x22.den F 0 [2, 2, a, b, c, d] = some (0, quotR 2 a b c d) := by
  obtain ⟨ha, hb, hc, hd⟩ := hr
  have ha1 : -9223372036854775808 ≤ a := ha.1
  have hb1 : -9223372036854775808 ≤ b := hb.1
  have f0 : F 84 [0, c, d] = some [trapV c d] := by rw [g84]; rfl
  have fu : undV 2 a b c d = 0 := if_neg (fun q => absurd q.1 (by decide))
  obtain ⟨L0, H0, e0, x0⟩ := kor g47 (a := a) (b := b) (c := c) (d := (min d (-1))) (by unfold in4 inI at *; omega) (by omega) (by omega) (by omega) (by omega)
  have y0 := chain1 x0
  have hs : Ext Int.tdiv (DivS a b c d) _ _ := y0.congr (fun v w => by unfold DivS Box LST; omega)
  rw [quotR_ext hs (by unfold someD LST; omega)]
  simp [t48x22, T.den, B.den, A.den, E.den, Cm.den, f0, fu, sel_t, ad1 g83, ad2 g83, mn_eq, mx_eq, n, p, c2, e0, show ¬ 0 < min d (-1) by omega]
theorem c48x22_001002 {F : Nat → List Int → Option (List Int)} {a b c d : Int} (g47 : F 47 = cornersS) (g83 : F 83 = addS) (g84 : F 84 = inS) (g104 : F 104 = sizeS) (hr : in4 a b c d) (hab : a ≤ b) (hcd : c ≤ d) (n : ¬ c < 0) (p : 0 < d) (u2 : ¬ (c ≤ -1 ∧ -1 ≤ d)) (c2 : ¬ c < -1) (k2 : 0 ≤ a) : t48x22.den F 0 [2, 2, a, b, c, d] = some (0, quotR 2 a b c d) := by
  obtain ⟨ha, hb, hc, hd⟩ := hr
  have ha1 : -9223372036854775808 ≤ a := ha.1
  have hb1 : -9223372036854775808 ≤ b := hb.1
  have f0 : F 84 [0, c, d] = some [trapV c d] := by rw [g84]; rfl
  have fu : undV 2 a b c d = 0 := if_neg (fun q => absurd q.1 (by decide))
  obtain ⟨L0, H0, e0, x0⟩ := kor g47 (a := a) (b := b) (c := (max c 1)) (d := d) (by unfold in4 inI at *; omega) (by omega) (by omega) (by omega) (by omega)
  have y0 := chain1 x0
  have hs : Ext Int.tdiv (DivS a b c d) _ _ := y0.congr (fun v w => by unfold DivS Box LST; omega)
  rw [quotR_ext hs (by unfold someD LST; omega)]
  simp [t48x22, T.den, B.den, A.den, E.den, Cm.den, f0, fu, sel_t, ad1 g83, ad2 g83, mn_eq, mx_eq, n, p, c2, e0]
theorem c48x22_000002 {F : Nat → List Int → Option (List Int)} {a b c d : Int} (g47 : F 47 = cornersS) (g83 : F 83 = addS) (g84 : F 84 = inS) (g104 : F 104 = sizeS) (hr : in4 a b c d) (hab : a ≤ b) (hcd : c ≤ d) (n : ¬ c < 0) (p : ¬ 0 < d) (u2 : ¬ (c ≤ -1 ∧ -1 ≤ d)) (c2 : ¬ c < -1) (k2 : 0 ≤ a) : t48x22.den F 0 [2, 2, a, b, c, d] = some (0, quotR 2 a b c d) := by
  obtain ⟨ha, hb, hc, hd⟩ := hr
  have ha1 : -9223372036854775808 ≤ a := ha.1
  have hb1 : -9223372036854775808 ≤ b := hb.1
  have f0 : F 84 [0, c, d] = some [trapV c d] := by rw [g84]; rfl
  have fu : undV 2 a b c d = 0 := if_neg (fun q => absurd q.1 (by decide))
  have hn : ¬ someD b c d := by unfold someD LST; omega
  have q : quotR 2 a b c d = [0, 0, 0, trapV c d, undV 2 a b c d] := quotR_eq0 ha hab hcd hn
  rw [q]
  simp [t48x22, T.den, B.den, A.den, E.den, Cm.den, f0, fu, sel_t, ad1 g83, ad2 g83, mn_eq, mx_eq, n, p, c2]
theorem c48x22 {F : Nat → List Int → Option (List Int)} {a b c d : Int} (g47 : F 47 = cornersS) (g83 : F 83 = addS) (g84 : F 84 = inS) (g104 : F 104 = sizeS) (hr : in4 a b c d) (hab : a ≤ b) (hcd : c ≤ d) (k2 : 0 ≤ a) : t48x22.den F 0 [2, 2, a, b, c, d] = some (0, quotR 2 a b c d) := by
  by_cases n : c < 0 <;> by_cases p : 0 < d <;> by_cases u2 : c ≤ -1 ∧ -1 ≤ d <;> by_cases c2 : c < -1 <;> by_cases m : -9223372036854775808 < b <;> first
    | (exfalso; omega)
    | exact c48x22_011112 g47 g83 g84 g104 hr hab hcd n p u2 c2 k2
    | exact c48x22_011102 g47 g83 g84 g104 hr hab hcd n p u2 c2 k2
    | exact c48x22_010112 g47 g83 g84 g104 hr hab hcd n p u2 c2 k2
    | exact c48x22_010102 g47 g83 g84 g104 hr hab hcd n p u2 c2 k2
    | exact c48x22_010012 g47 g83 g84 g104 hr hab hcd n p u2 c2 k2
    | exact c48x22_001002 g47 g83 g84 g104 hr hab hcd n p u2 c2 k2
    | exact c48x22_000002 g47 g83 g84 g104 hr hab hcd n p u2 c2 k2
/-- How the end of the remainders goes. -/
theorem rest_tail {a b lo hi t u : Int} (hh : 1 ≤ hi) : (if ab a < lo then if ab a < lo ∧ ab b < lo then some ((0 : Nat), [a, b, 1, t, u]) else if a < 0 then if 0 < b then some (0, [max a (-(hi - 1)), min b (hi - 1), 1, t, u]) else some (0, [max a (-(hi - 1)), 0, 1, t, u]) else if 0 < b then some (0, [0, min b (hi - 1), 1, t, u]) else some (0, [0, 0, 1, t, u])
      else if a < 0 then if 0 < b then some (0, [max a (-(hi - 1)), min b (hi - 1), 1, t, u]) else some (0, [max a (-(hi - 1)), 0, 1, t, u]) else if 0 < b then some (0, [0, min b (hi - 1), 1, t, u]) else some (0, [0, 0, 1, t, u])) =
    some (0, [if ab a < lo ∧ ab b < lo then a else max (min a 0) (-(hi - 1)), if ab a < lo ∧ ab b < lo then b else min (max b 0) (hi - 1), 1, t, u]) := by
  by_cases h1 : ab a < lo ∧ ab b < lo
  · simp only [h1, if_true, and_self]
  · have g : (if a < 0 then if 0 < b then some ((0 : Nat), [max a (-(hi - 1)), min b (hi - 1), 1, t, u]) else some (0, [max a (-(hi - 1)), 0, 1, t, u]) else if 0 < b then some (0, [0, min b (hi - 1), 1, t, u]) else some (0, [0, 0, 1, t, u])) = some (0, [max (min a 0) (-(hi - 1)), min (max b 0) (hi - 1), 1, t, u]) := by
      by_cases h2 : a < 0 <;> by_cases h3 : 0 < b
      · rw [if_pos h2, if_pos h3, show min a 0 = a by omega, show max b 0 = b by omega]
      · rw [if_pos h2, if_neg h3, show min a 0 = a by omega, show min (max b 0) (hi - 1) = 0 by omega]
      · rw [if_neg h2, if_pos h3, show max (min a 0) (-(hi - 1)) = 0 by omega, show max b 0 = b by omega]
      · rw [if_neg h2, if_neg h3, show max (min a 0) (-(hi - 1)) = 0 by omega, show min (max b 0) (hi - 1) = 0 by omega]
    simp only [h1, if_false, g, ite_self]
noncomputable def remR (k a b c d : Int) : List Int := if someD b c d then [restL a b c d, restH a b c d, 1, trapV c d, undV k a b c d] else [0, 0, 0, trapV c d, undV k a b c d]
theorem sel_t3 (c d : Int) : (if ¬ trapV c d = 0 then (1 : Int) else 0) = trapV c d := by unfold trapV; split <;> simp
theorem c48x31_111111 {F : Nat → List Int → Option (List Int)} {a b c d : Int} (g47 : F 47 = cornersS) (g83 : F 83 = addS) (g84 : F 84 = inS) (g104 : F 104 = sizeS) (hr : in4 a b c d) (hab : a ≤ b) (hcd : c ≤ d) (u1 : (a ≤ -9223372036854775808 ∧ -9223372036854775808 ≤ b)) (n : c < 0) (p : 0 < d) (u2 : (c ≤ -1 ∧ -1 ≤ d)) (c2 : c < -1) (m : -9223372036854775808 < b) : t48x31.den F 0 [3, 1, a, b, c, d] = some (0, remR 1 a b c d) := by
  obtain ⟨ha, hb, hc, hd⟩ := hr
  have ha1 : -9223372036854775808 ≤ a := ha.1
  have hb1 : -9223372036854775808 ≤ b := hb.1
  have f0 : F 84 [0, c, d] = some [trapV c d] := by rw [g84]; rfl
  have f1 : F 84 [-9223372036854775808, a, b] = some [1] := by rw [g84]; exact congrArg (fun x => some [x]) (if_pos u1)
  have f2 : F 84 [-1, c, d] = some [1] := by rw [g84]; exact congrArg (fun x => some [x]) (if_pos u2)
  have fu : undV 1 a b c d = 1 := if_pos ⟨rfl, u1, u2.1, u2.2⟩
  have q : remR 1 a b c d = [restL a b c d, restH a b c d, 1, trapV c d, undV 1 a b c d] := if_pos (by unfold someD LST; omega)
  rw [q]
  have hz : ∀ x, inI x → F 104 [x] = some [ab x] := fun x hx => by rw [g104]; exact if_pos hx
  have za := hz a ha
  have zb := hz b hb
  have zc := hz c hc
  have zd := hz d hd
  have zn := hz (min d (-1)) (by unfold inI at *; omega)
  have zp := hz (max c 1) (by unfold inI at *; omega)
  have e : sizesL c d = [ab c, ab (min d (-1)), ab (max c 1), ab d] := by unfold sizesL; rw [if_pos (by omega), if_pos (by omega)]; rfl
  have hlo : min (min (min (ab c) (ab (min d (-1)))) (ab (max c 1))) (ab d) = minL (sizesL c d) := by rw [e]; rfl
  have hhi : max (max (max (ab c) (ab (min d (-1)))) (ab (max c 1))) (ab d) = maxL (sizesL c d) := by rw [e]; rfl
  have hM := maxS hc hd hcd (by omega)
  obtain ⟨m1, m2⟩ := rest_end (a := a) (b := b) (lo := 0) hM
  simp only [t48x31, T.den, B.den, A.den, E.den, Cm.den, List.map, List.getD_cons_zero, List.getD_cons_succ, List.cons_append, List.nil_append, Bool.or_eq_true, Bool.and_eq_true, Bool.not_eq_true', decide_eq_true_eq, decide_eq_false_iff_not, beq_iff_eq, beq_eq_false_iff_ne, ne_eq, za, zb, zc, zd, zn, zp, f0, f1, f2, fu, n, p, c2, m, show ¬ 0 < min d (-1) by omega, mn_eq, mx_eq, min_self', max_self', wrap64, wrapU, List.length_cons, List.length_nil, Nat.zero_add, Nat.reduceAdd, if_true, if_false, hlo, hhi, m1, m2, sel_t3, show ¬ (1 : Int) = 0 from by decide, not_false_eq_true, not_true_eq_false, and_self, and_true, true_and, and_false, false_and, or_false, or_true, false_or, or_self]
  exact rest_tail hM.1
theorem c48x31_111110 {F : Nat → List Int → Option (List Int)} {a b c d : Int} (g47 : F 47 = cornersS) (g83 : F 83 = addS) (g84 : F 84 = inS) (g104 : F 104 = sizeS) (hr : in4 a b c d) (hab : a ≤ b) (hcd : c ≤ d) (u1 : (a ≤ -9223372036854775808 ∧ -9223372036854775808 ≤ b)) (n : c < 0) (p : 0 < d) (u2 : (c ≤ -1 ∧ -1 ≤ d)) (c2 : c < -1) (m : ¬ -9223372036854775808 < b) : t48x31.den F 0 [3, 1, a, b, c, d] = some (0, remR 1 a b c d) := by
  obtain ⟨ha, hb, hc, hd⟩ := hr
  have ha1 : -9223372036854775808 ≤ a := ha.1
  have hb1 : -9223372036854775808 ≤ b := hb.1
  have f0 : F 84 [0, c, d] = some [trapV c d] := by rw [g84]; rfl
  have f1 : F 84 [-9223372036854775808, a, b] = some [1] := by rw [g84]; exact congrArg (fun x => some [x]) (if_pos u1)
  have f2 : F 84 [-1, c, d] = some [1] := by rw [g84]; exact congrArg (fun x => some [x]) (if_pos u2)
  have fu : undV 1 a b c d = 1 := if_pos ⟨rfl, u1, u2.1, u2.2⟩
  have q : remR 1 a b c d = [restL a b c d, restH a b c d, 1, trapV c d, undV 1 a b c d] := if_pos (by unfold someD LST; omega)
  rw [q]
  have hz : ∀ x, inI x → F 104 [x] = some [ab x] := fun x hx => by rw [g104]; exact if_pos hx
  have za := hz a ha
  have zb := hz b hb
  have zc := hz c hc
  have zd := hz d hd
  have zn := hz (min d (-1)) (by unfold inI at *; omega)
  have zp := hz (max c 1) (by unfold inI at *; omega)
  have e : sizesL c d = [ab c, ab (min d (-1)), ab (max c 1), ab d] := by unfold sizesL; rw [if_pos (by omega), if_pos (by omega)]; rfl
  have hlo : min (min (min (ab c) (ab (min d (-1)))) (ab (max c 1))) (ab d) = minL (sizesL c d) := by rw [e]; rfl
  have hhi : max (max (max (ab c) (ab (min d (-1)))) (ab (max c 1))) (ab d) = maxL (sizesL c d) := by rw [e]; rfl
  have hM := maxS hc hd hcd (by omega)
  obtain ⟨m1, m2⟩ := rest_end (a := a) (b := b) (lo := 0) hM
  simp only [t48x31, T.den, B.den, A.den, E.den, Cm.den, List.map, List.getD_cons_zero, List.getD_cons_succ, List.cons_append, List.nil_append, Bool.or_eq_true, Bool.and_eq_true, Bool.not_eq_true', decide_eq_true_eq, decide_eq_false_iff_not, beq_iff_eq, beq_eq_false_iff_ne, ne_eq, za, zb, zc, zd, zn, zp, f0, f1, f2, fu, n, p, c2, m, show ¬ 0 < min d (-1) by omega, mn_eq, mx_eq, min_self', max_self', wrap64, wrapU, List.length_cons, List.length_nil, Nat.zero_add, Nat.reduceAdd, if_true, if_false, hlo, hhi, m1, m2, sel_t3, show ¬ (1 : Int) = 0 from by decide, not_false_eq_true, not_true_eq_false, and_self, and_true, true_and, and_false, false_and, or_false, or_true, false_or, or_self]
  exact rest_tail hM.1
theorem c48x31_111101 {F : Nat → List Int → Option (List Int)} {a b c d : Int} (g47 : F 47 = cornersS) (g83 : F 83 = addS) (g84 : F 84 = inS) (g104 : F 104 = sizeS) (hr : in4 a b c d) (hab : a ≤ b) (hcd : c ≤ d) (u1 : (a ≤ -9223372036854775808 ∧ -9223372036854775808 ≤ b)) (n : c < 0) (p : 0 < d) (u2 : (c ≤ -1 ∧ -1 ≤ d)) (c2 : ¬ c < -1) (m : -9223372036854775808 < b) : t48x31.den F 0 [3, 1, a, b, c, d] = some (0, remR 1 a b c d) := by
  obtain ⟨ha, hb, hc, hd⟩ := hr
  have ha1 : -9223372036854775808 ≤ a := ha.1
  have hb1 : -9223372036854775808 ≤ b := hb.1
  have f0 : F 84 [0, c, d] = some [trapV c d] := by rw [g84]; rfl
  have f1 : F 84 [-9223372036854775808, a, b] = some [1] := by rw [g84]; exact congrArg (fun x => some [x]) (if_pos u1)
  have f2 : F 84 [-1, c, d] = some [1] := by rw [g84]; exact congrArg (fun x => some [x]) (if_pos u2)
  have fu : undV 1 a b c d = 1 := if_pos ⟨rfl, u1, u2.1, u2.2⟩
  have q : remR 1 a b c d = [restL a b c d, restH a b c d, 1, trapV c d, undV 1 a b c d] := if_pos (by unfold someD LST; omega)
  rw [q]
  have hz : ∀ x, inI x → F 104 [x] = some [ab x] := fun x hx => by rw [g104]; exact if_pos hx
  have za := hz a ha
  have zb := hz b hb
  have zc := hz c hc
  have zd := hz d hd
  have zn := hz (min d (-1)) (by unfold inI at *; omega)
  have zp := hz (max c 1) (by unfold inI at *; omega)
  have e : sizesL c d = [ab c, ab (min d (-1)), ab (max c 1), ab d] := by unfold sizesL; rw [if_pos (by omega), if_pos (by omega)]; rfl
  have hlo : min (min (min (ab c) (ab (min d (-1)))) (ab (max c 1))) (ab d) = minL (sizesL c d) := by rw [e]; rfl
  have hhi : max (max (max (ab c) (ab (min d (-1)))) (ab (max c 1))) (ab d) = maxL (sizesL c d) := by rw [e]; rfl
  have hM := maxS hc hd hcd (by omega)
  obtain ⟨m1, m2⟩ := rest_end (a := a) (b := b) (lo := 0) hM
  simp only [t48x31, T.den, B.den, A.den, E.den, Cm.den, List.map, List.getD_cons_zero, List.getD_cons_succ, List.cons_append, List.nil_append, Bool.or_eq_true, Bool.and_eq_true, Bool.not_eq_true', decide_eq_true_eq, decide_eq_false_iff_not, beq_iff_eq, beq_eq_false_iff_ne, ne_eq, za, zb, zc, zd, zn, zp, f0, f1, f2, fu, n, p, c2, m, show ¬ 0 < min d (-1) by omega, mn_eq, mx_eq, min_self', max_self', wrap64, wrapU, List.length_cons, List.length_nil, Nat.zero_add, Nat.reduceAdd, if_true, if_false, hlo, hhi, m1, m2, sel_t3, show ¬ (1 : Int) = 0 from by decide, not_false_eq_true, not_true_eq_false, and_self, and_true, true_and, and_false, false_and, or_false, or_true, false_or, or_self]
  exact rest_tail hM.1
theorem c48x31_111100 {F : Nat → List Int → Option (List Int)} {a b c d : Int} (g47 : F 47 = cornersS) (g83 : F 83 = addS) (g84 : F 84 = inS) (g104 : F 104 = sizeS) (hr : in4 a b c d) (hab : a ≤ b) (hcd : c ≤ d) (u1 : (a ≤ -9223372036854775808 ∧ -9223372036854775808 ≤ b)) (n : c < 0) (p : 0 < d) (u2 : (c ≤ -1 ∧ -1 ≤ d)) (c2 : ¬ c < -1) (m : ¬ -9223372036854775808 < b) : t48x31.den F 0 [3, 1, a, b, c, d] = some (0, remR 1 a b c d) := by
  obtain ⟨ha, hb, hc, hd⟩ := hr
  have ha1 : -9223372036854775808 ≤ a := ha.1
  have hb1 : -9223372036854775808 ≤ b := hb.1
  have f0 : F 84 [0, c, d] = some [trapV c d] := by rw [g84]; rfl
  have f1 : F 84 [-9223372036854775808, a, b] = some [1] := by rw [g84]; exact congrArg (fun x => some [x]) (if_pos u1)
  have f2 : F 84 [-1, c, d] = some [1] := by rw [g84]; exact congrArg (fun x => some [x]) (if_pos u2)
  have fu : undV 1 a b c d = 1 := if_pos ⟨rfl, u1, u2.1, u2.2⟩
  have q : remR 1 a b c d = [restL a b c d, restH a b c d, 1, trapV c d, undV 1 a b c d] := if_pos (by unfold someD LST; omega)
  rw [q]
  have hz : ∀ x, inI x → F 104 [x] = some [ab x] := fun x hx => by rw [g104]; exact if_pos hx
  have za := hz a ha
  have zb := hz b hb
  have zc := hz c hc
  have zd := hz d hd
  have zn := hz (min d (-1)) (by unfold inI at *; omega)
  have zp := hz (max c 1) (by unfold inI at *; omega)
  have e : sizesL c d = [ab c, ab (min d (-1)), ab (max c 1), ab d] := by unfold sizesL; rw [if_pos (by omega), if_pos (by omega)]; rfl
  have hlo : min (min (min (ab c) (ab (min d (-1)))) (ab (max c 1))) (ab d) = minL (sizesL c d) := by rw [e]; rfl
  have hhi : max (max (max (ab c) (ab (min d (-1)))) (ab (max c 1))) (ab d) = maxL (sizesL c d) := by rw [e]; rfl
  have hM := maxS hc hd hcd (by omega)
  obtain ⟨m1, m2⟩ := rest_end (a := a) (b := b) (lo := 0) hM
  simp only [t48x31, T.den, B.den, A.den, E.den, Cm.den, List.map, List.getD_cons_zero, List.getD_cons_succ, List.cons_append, List.nil_append, Bool.or_eq_true, Bool.and_eq_true, Bool.not_eq_true', decide_eq_true_eq, decide_eq_false_iff_not, beq_iff_eq, beq_eq_false_iff_ne, ne_eq, za, zb, zc, zd, zn, zp, f0, f1, f2, fu, n, p, c2, m, show ¬ 0 < min d (-1) by omega, mn_eq, mx_eq, min_self', max_self', wrap64, wrapU, List.length_cons, List.length_nil, Nat.zero_add, Nat.reduceAdd, if_true, if_false, hlo, hhi, m1, m2, sel_t3, show ¬ (1 : Int) = 0 from by decide, not_false_eq_true, not_true_eq_false, and_self, and_true, true_and, and_false, false_and, or_false, or_true, false_or, or_self]
  exact rest_tail hM.1
theorem c48x31_110111 {F : Nat → List Int → Option (List Int)} {a b c d : Int} (g47 : F 47 = cornersS) (g83 : F 83 = addS) (g84 : F 84 = inS) (g104 : F 104 = sizeS) (hr : in4 a b c d) (hab : a ≤ b) (hcd : c ≤ d) (u1 : (a ≤ -9223372036854775808 ∧ -9223372036854775808 ≤ b)) (n : c < 0) (p : ¬ 0 < d) (u2 : (c ≤ -1 ∧ -1 ≤ d)) (c2 : c < -1) (m : -9223372036854775808 < b) : t48x31.den F 0 [3, 1, a, b, c, d] = some (0, remR 1 a b c d) := by
  obtain ⟨ha, hb, hc, hd⟩ := hr
  have ha1 : -9223372036854775808 ≤ a := ha.1
  have hb1 : -9223372036854775808 ≤ b := hb.1
  have f0 : F 84 [0, c, d] = some [trapV c d] := by rw [g84]; rfl
  have f1 : F 84 [-9223372036854775808, a, b] = some [1] := by rw [g84]; exact congrArg (fun x => some [x]) (if_pos u1)
  have f2 : F 84 [-1, c, d] = some [1] := by rw [g84]; exact congrArg (fun x => some [x]) (if_pos u2)
  have fu : undV 1 a b c d = 1 := if_pos ⟨rfl, u1, u2.1, u2.2⟩
  have q : remR 1 a b c d = [restL a b c d, restH a b c d, 1, trapV c d, undV 1 a b c d] := if_pos (by unfold someD LST; omega)
  rw [q]
  have hz : ∀ x, inI x → F 104 [x] = some [ab x] := fun x hx => by rw [g104]; exact if_pos hx
  have za := hz a ha
  have zb := hz b hb
  have zc := hz c hc
  have zd := hz d hd
  have zn := hz (min d (-1)) (by unfold inI at *; omega)
  have e : sizesL c d = [ab c, ab (min d (-1))] := by unfold sizesL; rw [if_pos (by omega), if_neg (by omega)]; rfl
  have hlo : min (ab c) (ab (min d (-1))) = minL (sizesL c d) := by rw [e]; rfl
  have hhi : max (ab c) (ab (min d (-1))) = maxL (sizesL c d) := by rw [e]; rfl
  have hM := maxS hc hd hcd (by omega)
  obtain ⟨m1, m2⟩ := rest_end (a := a) (b := b) (lo := 0) hM
  simp only [t48x31, T.den, B.den, A.den, E.den, Cm.den, List.map, List.getD_cons_zero, List.getD_cons_succ, List.cons_append, List.nil_append, Bool.or_eq_true, Bool.and_eq_true, Bool.not_eq_true', decide_eq_true_eq, decide_eq_false_iff_not, beq_iff_eq, beq_eq_false_iff_ne, ne_eq, za, zb, zc, zd, zn, f0, f1, f2, fu, n, p, c2, m, show ¬ 0 < min d (-1) by omega, mn_eq, mx_eq, min_self', max_self', wrap64, wrapU, List.length_cons, List.length_nil, Nat.zero_add, Nat.reduceAdd, if_true, if_false, hlo, hhi, m1, m2, sel_t3, show ¬ (1 : Int) = 0 from by decide, not_false_eq_true, not_true_eq_false, and_self, and_true, true_and, and_false, false_and, or_false, or_true, false_or, or_self]
  exact rest_tail hM.1
theorem c48x31_110110 {F : Nat → List Int → Option (List Int)} {a b c d : Int} (g47 : F 47 = cornersS) (g83 : F 83 = addS) (g84 : F 84 = inS) (g104 : F 104 = sizeS) (hr : in4 a b c d) (hab : a ≤ b) (hcd : c ≤ d) (u1 : (a ≤ -9223372036854775808 ∧ -9223372036854775808 ≤ b)) (n : c < 0) (p : ¬ 0 < d) (u2 : (c ≤ -1 ∧ -1 ≤ d)) (c2 : c < -1) (m : ¬ -9223372036854775808 < b) : t48x31.den F 0 [3, 1, a, b, c, d] = some (0, remR 1 a b c d) := by
  obtain ⟨ha, hb, hc, hd⟩ := hr
  have ha1 : -9223372036854775808 ≤ a := ha.1
  have hb1 : -9223372036854775808 ≤ b := hb.1
  have f0 : F 84 [0, c, d] = some [trapV c d] := by rw [g84]; rfl
  have f1 : F 84 [-9223372036854775808, a, b] = some [1] := by rw [g84]; exact congrArg (fun x => some [x]) (if_pos u1)
  have f2 : F 84 [-1, c, d] = some [1] := by rw [g84]; exact congrArg (fun x => some [x]) (if_pos u2)
  have fu : undV 1 a b c d = 1 := if_pos ⟨rfl, u1, u2.1, u2.2⟩
  have q : remR 1 a b c d = [restL a b c d, restH a b c d, 1, trapV c d, undV 1 a b c d] := if_pos (by unfold someD LST; omega)
  rw [q]
  have hz : ∀ x, inI x → F 104 [x] = some [ab x] := fun x hx => by rw [g104]; exact if_pos hx
  have za := hz a ha
  have zb := hz b hb
  have zc := hz c hc
  have zd := hz d hd
  have zn := hz (min d (-1)) (by unfold inI at *; omega)
  have e : sizesL c d = [ab c, ab (min d (-1))] := by unfold sizesL; rw [if_pos (by omega), if_neg (by omega)]; rfl
  have hlo : min (ab c) (ab (min d (-1))) = minL (sizesL c d) := by rw [e]; rfl
  have hhi : max (ab c) (ab (min d (-1))) = maxL (sizesL c d) := by rw [e]; rfl
  have hM := maxS hc hd hcd (by omega)
  obtain ⟨m1, m2⟩ := rest_end (a := a) (b := b) (lo := 0) hM
  simp only [t48x31, T.den, B.den, A.den, E.den, Cm.den, List.map, List.getD_cons_zero, List.getD_cons_succ, List.cons_append, List.nil_append, Bool.or_eq_true, Bool.and_eq_true, Bool.not_eq_true', decide_eq_true_eq, decide_eq_false_iff_not, beq_iff_eq, beq_eq_false_iff_ne, ne_eq, za, zb, zc, zd, zn, f0, f1, f2, fu, n, p, c2, m, show ¬ 0 < min d (-1) by omega, mn_eq, mx_eq, min_self', max_self', wrap64, wrapU, List.length_cons, List.length_nil, Nat.zero_add, Nat.reduceAdd, if_true, if_false, hlo, hhi, m1, m2, sel_t3, show ¬ (1 : Int) = 0 from by decide, not_false_eq_true, not_true_eq_false, and_self, and_true, true_and, and_false, false_and, or_false, or_true, false_or, or_self]
  exact rest_tail hM.1
theorem c48x31_110101 {F : Nat → List Int → Option (List Int)} {a b c d : Int} (g47 : F 47 = cornersS) (g83 : F 83 = addS) (g84 : F 84 = inS) (g104 : F 104 = sizeS) (hr : in4 a b c d) (hab : a ≤ b) (hcd : c ≤ d) (u1 : (a ≤ -9223372036854775808 ∧ -9223372036854775808 ≤ b)) (n : c < 0) (p : ¬ 0 < d) (u2 : (c ≤ -1 ∧ -1 ≤ d)) (c2 : ¬ c < -1) (m : -9223372036854775808 < b) : t48x31.den F 0 [3, 1, a, b, c, d] = some (0, remR 1 a b c d) := by
  obtain ⟨ha, hb, hc, hd⟩ := hr
  have ha1 : -9223372036854775808 ≤ a := ha.1
  have hb1 : -9223372036854775808 ≤ b := hb.1
  have f0 : F 84 [0, c, d] = some [trapV c d] := by rw [g84]; rfl
  have f1 : F 84 [-9223372036854775808, a, b] = some [1] := by rw [g84]; exact congrArg (fun x => some [x]) (if_pos u1)
  have f2 : F 84 [-1, c, d] = some [1] := by rw [g84]; exact congrArg (fun x => some [x]) (if_pos u2)
  have fu : undV 1 a b c d = 1 := if_pos ⟨rfl, u1, u2.1, u2.2⟩
  have q : remR 1 a b c d = [restL a b c d, restH a b c d, 1, trapV c d, undV 1 a b c d] := if_pos (by unfold someD LST; omega)
  rw [q]
  have hz : ∀ x, inI x → F 104 [x] = some [ab x] := fun x hx => by rw [g104]; exact if_pos hx
  have za := hz a ha
  have zb := hz b hb
  have zc := hz c hc
  have zd := hz d hd
  have zn := hz (min d (-1)) (by unfold inI at *; omega)
  have e : sizesL c d = [ab c, ab (min d (-1))] := by unfold sizesL; rw [if_pos (by omega), if_neg (by omega)]; rfl
  have hlo : min (ab c) (ab (min d (-1))) = minL (sizesL c d) := by rw [e]; rfl
  have hhi : max (ab c) (ab (min d (-1))) = maxL (sizesL c d) := by rw [e]; rfl
  have hM := maxS hc hd hcd (by omega)
  obtain ⟨m1, m2⟩ := rest_end (a := a) (b := b) (lo := 0) hM
  simp only [t48x31, T.den, B.den, A.den, E.den, Cm.den, List.map, List.getD_cons_zero, List.getD_cons_succ, List.cons_append, List.nil_append, Bool.or_eq_true, Bool.and_eq_true, Bool.not_eq_true', decide_eq_true_eq, decide_eq_false_iff_not, beq_iff_eq, beq_eq_false_iff_ne, ne_eq, za, zb, zc, zd, zn, f0, f1, f2, fu, n, p, c2, m, show ¬ 0 < min d (-1) by omega, mn_eq, mx_eq, min_self', max_self', wrap64, wrapU, List.length_cons, List.length_nil, Nat.zero_add, Nat.reduceAdd, if_true, if_false, hlo, hhi, m1, m2, sel_t3, show ¬ (1 : Int) = 0 from by decide, not_false_eq_true, not_true_eq_false, and_self, and_true, true_and, and_false, false_and, or_false, or_true, false_or, or_self]
  exact rest_tail hM.1
theorem c48x31_110100 {F : Nat → List Int → Option (List Int)} {a b c d : Int} (g47 : F 47 = cornersS) (g83 : F 83 = addS) (g84 : F 84 = inS) (g104 : F 104 = sizeS) (hr : in4 a b c d) (hab : a ≤ b) (hcd : c ≤ d) (u1 : (a ≤ -9223372036854775808 ∧ -9223372036854775808 ≤ b)) (n : c < 0) (p : ¬ 0 < d) (u2 : (c ≤ -1 ∧ -1 ≤ d)) (c2 : ¬ c < -1) (m : ¬ -9223372036854775808 < b) : t48x31.den F 0 [3, 1, a, b, c, d] = some (0, remR 1 a b c d) := by
  obtain ⟨ha, hb, hc, hd⟩ := hr
  have ha1 : -9223372036854775808 ≤ a := ha.1
  have hb1 : -9223372036854775808 ≤ b := hb.1
  have f0 : F 84 [0, c, d] = some [trapV c d] := by rw [g84]; rfl
  have f1 : F 84 [-9223372036854775808, a, b] = some [1] := by rw [g84]; exact congrArg (fun x => some [x]) (if_pos u1)
  have f2 : F 84 [-1, c, d] = some [1] := by rw [g84]; exact congrArg (fun x => some [x]) (if_pos u2)
  have fu : undV 1 a b c d = 1 := if_pos ⟨rfl, u1, u2.1, u2.2⟩
  have hn : ¬ someD b c d := by unfold someD LST; omega
  have q : remR 1 a b c d = [0, 0, 0, trapV c d, undV 1 a b c d] := if_neg hn
  rw [q]
  simp only [t48x31, T.den, B.den, A.den, E.den, Cm.den, List.map, List.getD_cons_zero, List.getD_cons_succ, List.cons_append, List.nil_append, Bool.or_eq_true, Bool.and_eq_true, Bool.not_eq_true', decide_eq_true_eq, decide_eq_false_iff_not, beq_iff_eq, beq_eq_false_iff_ne, ne_eq, f0, f1, f2, fu, n, p, c2, m, show ¬ 0 < min d (-1) by omega, List.length_cons, List.length_nil, Nat.zero_add, Nat.reduceAdd, if_true, if_false, sel_t3, mn_eq, show (!((1 : Int) == 0)) = true from rfl, Bool.and_self, Bool.true_eq_false, show ¬ (1 : Int) = 0 from by decide, not_false_eq_true, not_true_eq_false, and_self, and_true, true_and, and_false, false_and, or_false, or_true, false_or, or_self]
theorem c48x31_110012 {F : Nat → List Int → Option (List Int)} {a b c d : Int} (g47 : F 47 = cornersS) (g83 : F 83 = addS) (g84 : F 84 = inS) (g104 : F 104 = sizeS) (hr : in4 a b c d) (hab : a ≤ b) (hcd : c ≤ d) (u1 : (a ≤ -9223372036854775808 ∧ -9223372036854775808 ≤ b)) (n : c < 0) (p : ¬ 0 < d) (u2 : ¬ (c ≤ -1 ∧ -1 ≤ d)) (c2 : c < -1) : t48x31.den F 0 [3, 1, a, b, c, d] = some (0, remR 1 a b c d) := by
  obtain ⟨ha, hb, hc, hd⟩ := hr
  have ha1 : -9223372036854775808 ≤ a := ha.1
  have hb1 : -9223372036854775808 ≤ b := hb.1
  have f0 : F 84 [0, c, d] = some [trapV c d] := by rw [g84]; rfl
  have f1 : F 84 [-9223372036854775808, a, b] = some [1] := by rw [g84]; exact congrArg (fun x => some [x]) (if_pos u1)
  have f2 : F 84 [-1, c, d] = some [0] := by rw [g84]; exact congrArg (fun x => some [x]) (if_neg u2)
  have fu : undV 1 a b c d = 0 := if_neg (fun q => by omega)
  have q : remR 1 a b c d = [restL a b c d, restH a b c d, 1, trapV c d, undV 1 a b c d] := if_pos (by unfold someD LST; omega)
  rw [q]
  have hz : ∀ x, inI x → F 104 [x] = some [ab x] := fun x hx => by rw [g104]; exact if_pos hx
  have za := hz a ha
  have zb := hz b hb
  have zc := hz c hc
  have zd := hz d hd
  have zn := hz (min d (-1)) (by unfold inI at *; omega)
  have e : sizesL c d = [ab c, ab (min d (-1))] := by unfold sizesL; rw [if_pos (by omega), if_neg (by omega)]; rfl
  have hlo : min (ab c) (ab (min d (-1))) = minL (sizesL c d) := by rw [e]; rfl
  have hhi : max (ab c) (ab (min d (-1))) = maxL (sizesL c d) := by rw [e]; rfl
  have hM := maxS hc hd hcd (by omega)
  obtain ⟨m1, m2⟩ := rest_end (a := a) (b := b) (lo := 0) hM
  simp only [t48x31, T.den, B.den, A.den, E.den, Cm.den, List.map, List.getD_cons_zero, List.getD_cons_succ, List.cons_append, List.nil_append, Bool.or_eq_true, Bool.and_eq_true, Bool.not_eq_true', decide_eq_true_eq, decide_eq_false_iff_not, beq_iff_eq, beq_eq_false_iff_ne, ne_eq, za, zb, zc, zd, zn, f0, f1, f2, fu, n, p, c2, show ¬ 0 < min d (-1) by omega, mn_eq, mx_eq, min_self', max_self', wrap64, wrapU, List.length_cons, List.length_nil, Nat.zero_add, Nat.reduceAdd, if_true, if_false, hlo, hhi, m1, m2, sel_t3, show ¬ (1 : Int) = 0 from by decide, not_false_eq_true, not_true_eq_false, and_self, and_true, true_and, and_false, false_and, or_false, or_true, false_or, or_self]
  exact rest_tail hM.1
theorem c48x31_101002 {F : Nat → List Int → Option (List Int)} {a b c d : Int} (g47 : F 47 = cornersS) (g83 : F 83 = addS) (g84 : F 84 = inS) (g104 : F 104 = sizeS) (hr : in4 a b c d) (hab : a ≤ b) (hcd : c ≤ d) (u1 : (a ≤ -9223372036854775808 ∧ -9223372036854775808 ≤ b)) (n : ¬ c < 0) (p : 0 < d) (u2 : ¬ (c ≤ -1 ∧ -1 ≤ d)) (c2 : ¬ c < -1) : t48x31.den F 0 [3, 1, a, b, c, d] = some (0, remR 1 a b c d) := by
  obtain ⟨ha, hb, hc, hd⟩ := hr
  have ha1 : -9223372036854775808 ≤ a := ha.1
  have hb1 : -9223372036854775808 ≤ b := hb.1
  have f0 : F 84 [0, c, d] = some [trapV c d] := by rw [g84]; rfl
  have f1 : F 84 [-9223372036854775808, a, b] = some [1] := by rw [g84]; exact congrArg (fun x => some [x]) (if_pos u1)
  have f2 : F 84 [-1, c, d] = some [0] := by rw [g84]; exact congrArg (fun x => some [x]) (if_neg u2)
  have fu : undV 1 a b c d = 0 := if_neg (fun q => by omega)
  have q : remR 1 a b c d = [restL a b c d, restH a b c d, 1, trapV c d, undV 1 a b c d] := if_pos (by unfold someD LST; omega)
  rw [q]
  have hz : ∀ x, inI x → F 104 [x] = some [ab x] := fun x hx => by rw [g104]; exact if_pos hx
  have za := hz a ha
  have zb := hz b hb
  have zc := hz c hc
  have zd := hz d hd
  have zp := hz (max c 1) (by unfold inI at *; omega)
  have e : sizesL c d = [ab (max c 1), ab d] := by unfold sizesL; rw [if_neg (by omega), if_pos (by omega)]; rfl
  have hlo : min (ab (max c 1)) (ab d) = minL (sizesL c d) := by rw [e]; rfl
  have hhi : max (ab (max c 1)) (ab d) = maxL (sizesL c d) := by rw [e]; rfl
  have hM := maxS hc hd hcd (by omega)
  obtain ⟨m1, m2⟩ := rest_end (a := a) (b := b) (lo := 0) hM
  simp only [t48x31, T.den, B.den, A.den, E.den, Cm.den, List.map, List.getD_cons_zero, List.getD_cons_succ, List.cons_append, List.nil_append, Bool.or_eq_true, Bool.and_eq_true, Bool.not_eq_true', decide_eq_true_eq, decide_eq_false_iff_not, beq_iff_eq, beq_eq_false_iff_ne, ne_eq, za, zb, zc, zd, zp, f0, f1, f2, fu, n, p, c2, mn_eq, mx_eq, min_self', max_self', wrap64, wrapU, List.length_cons, List.length_nil, Nat.zero_add, Nat.reduceAdd, if_true, if_false, hlo, hhi, m1, m2, sel_t3, show ¬ (1 : Int) = 0 from by decide, not_false_eq_true, not_true_eq_false, and_self, and_true, true_and, and_false, false_and, or_false, or_true, false_or, or_self]
  exact rest_tail hM.1
theorem c48x31_100002 {F : Nat → List Int → Option (List Int)} {a b c d : Int} (g47 : F 47 = cornersS) (g83 : F 83 = addS) (g84 : F 84 = inS) (g104 : F 104 = sizeS) (hr : in4 a b c d) (hab : a ≤ b) (hcd : c ≤ d) (u1 : (a ≤ -9223372036854775808 ∧ -9223372036854775808 ≤ b)) (n : ¬ c < 0) (p : ¬ 0 < d) (u2 : ¬ (c ≤ -1 ∧ -1 ≤ d)) (c2 : ¬ c < -1) : t48x31.den F 0 [3, 1, a, b, c, d] = some (0, remR 1 a b c d) := by
  obtain ⟨ha, hb, hc, hd⟩ := hr
  have ha1 : -9223372036854775808 ≤ a := ha.1
  have hb1 : -9223372036854775808 ≤ b := hb.1
  have f0 : F 84 [0, c, d] = some [trapV c d] := by rw [g84]; rfl
  have f1 : F 84 [-9223372036854775808, a, b] = some [1] := by rw [g84]; exact congrArg (fun x => some [x]) (if_pos u1)
  have f2 : F 84 [-1, c, d] = some [0] := by rw [g84]; exact congrArg (fun x => some [x]) (if_neg u2)
  have fu : undV 1 a b c d = 0 := if_neg (fun q => by omega)
  have hn : ¬ someD b c d := by unfold someD LST; omega
  have q : remR 1 a b c d = [0, 0, 0, trapV c d, undV 1 a b c d] := if_neg hn
  rw [q]
  simp only [t48x31, T.den, B.den, A.den, E.den, Cm.den, List.map, List.getD_cons_zero, List.getD_cons_succ, List.cons_append, List.nil_append, Bool.or_eq_true, Bool.and_eq_true, Bool.not_eq_true', decide_eq_true_eq, decide_eq_false_iff_not, beq_iff_eq, beq_eq_false_iff_ne, ne_eq, f0, f1, f2, fu, n, p, c2, List.length_cons, List.length_nil, Nat.zero_add, Nat.reduceAdd, if_true, if_false, sel_t3, mn_eq, show (!((1 : Int) == 0)) = true from rfl, Bool.and_self, Bool.true_eq_false, show ¬ (1 : Int) = 0 from by decide, not_false_eq_true, not_true_eq_false, and_self, and_true, true_and, and_false, false_and, or_false, or_true, false_or, or_self]
theorem c48x31_011112 {F : Nat → List Int → Option (List Int)} {a b c d : Int} (g47 : F 47 = cornersS) (g83 : F 83 = addS) (g84 : F 84 = inS) (g104 : F 104 = sizeS) (hr : in4 a b c d) (hab : a ≤ b) (hcd : c ≤ d) (u1 : ¬ (a ≤ -9223372036854775808 ∧ -9223372036854775808 ≤ b)) (n : c < 0) (p : 0 < d) (u2 : (c ≤ -1 ∧ -1 ≤ d)) (c2 : c < -1) : t48x31.den F 0 [3, 1, a, b, c, d] = some (0, remR 1 a b c d) := by
  obtain ⟨ha, hb, hc, hd⟩ := hr
  have ha1 : -9223372036854775808 ≤ a := ha.1
  have hb1 : -9223372036854775808 ≤ b := hb.1
  have f0 : F 84 [0, c, d] = some [trapV c d] := by rw [g84]; rfl
  have f1 : F 84 [-9223372036854775808, a, b] = some [0] := by rw [g84]; exact congrArg (fun x => some [x]) (if_neg u1)
  have fu : undV 1 a b c d = 0 := if_neg (fun q => by omega)
  have q : remR 1 a b c d = [restL a b c d, restH a b c d, 1, trapV c d, undV 1 a b c d] := if_pos (by unfold someD LST; omega)
  rw [q]
  have hz : ∀ x, inI x → F 104 [x] = some [ab x] := fun x hx => by rw [g104]; exact if_pos hx
  have za := hz a ha
  have zb := hz b hb
  have zc := hz c hc
  have zd := hz d hd
  have zn := hz (min d (-1)) (by unfold inI at *; omega)
  have zp := hz (max c 1) (by unfold inI at *; omega)
  have e : sizesL c d = [ab c, ab (min d (-1)), ab (max c 1), ab d] := by unfold sizesL; rw [if_pos (by omega), if_pos (by omega)]; rfl
  have hlo : min (min (min (ab c) (ab (min d (-1)))) (ab (max c 1))) (ab d) = minL (sizesL c d) := by rw [e]; rfl
  have hhi : max (max (max (ab c) (ab (min d (-1)))) (ab (max c 1))) (ab d) = maxL (sizesL c d) := by rw [e]; rfl
  have hM := maxS hc hd hcd (by omega)
  obtain ⟨m1, m2⟩ := rest_end (a := a) (b := b) (lo := 0) hM
  simp only [t48x31, T.den, B.den, A.den, E.den, Cm.den, List.map, List.getD_cons_zero, List.getD_cons_succ, List.cons_append, List.nil_append, Bool.or_eq_true, Bool.and_eq_true, Bool.not_eq_true', decide_eq_true_eq, decide_eq_false_iff_not, beq_iff_eq, beq_eq_false_iff_ne, ne_eq, za, zb, zc, zd, zn, zp, f0, f1, fu, n, p, c2, show ¬ 0 < min d (-1) by omega, mn_eq, mx_eq, min_self', max_self', wrap64, wrapU, List.length_cons, List.length_nil, Nat.zero_add, Nat.reduceAdd, if_true, if_false, hlo, hhi, m1, m2, sel_t3, show ¬ (1 : Int) = 0 from by decide, not_false_eq_true, not_true_eq_false, and_self, and_true, true_and, and_false, false_and, or_false, or_true, false_or, or_self]
  exact rest_tail hM.1
theorem c48x31_011102 {F : Nat → List Int → Option (List Int)} {a b c d : Int} (g47 : F 47 = cornersS) (g83 : F 83 = addS) (g84 : F 84 = inS) (g104 : F 104 = sizeS) (hr : in4 a b c d) (hab : a ≤ b) (hcd : c ≤ d) (u1 : ¬ (a ≤ -9223372036854775808 ∧ -9223372036854775808 ≤ b)) (n : c < 0) (p : 0 < d) (u2 : (c ≤ -1 ∧ -1 ≤ d)) (c2 : ¬ c < -1) : t48x31.den F 0 [3, 1, a, b, c, d] = some (0, remR 1 a b c d) := by
  obtain ⟨ha, hb, hc, hd⟩ := hr
  have ha1 : -9223372036854775808 ≤ a := ha.1
  have hb1 : -9223372036854775808 ≤ b := hb.1
  have f0 : F 84 [0, c, d] = some [trapV c d] := by rw [g84]; rfl
  have f1 : F 84 [-9223372036854775808, a, b] = some [0] := by rw [g84]; exact congrArg (fun x => some [x]) (if_neg u1)
  have fu : undV 1 a b c d = 0 := if_neg (fun q => by omega)
  have q : remR 1 a b c d = [restL a b c d, restH a b c d, 1, trapV c d, undV 1 a b c d] := if_pos (by unfold someD LST; omega)
  rw [q]
  have hz : ∀ x, inI x → F 104 [x] = some [ab x] := fun x hx => by rw [g104]; exact if_pos hx
  have za := hz a ha
  have zb := hz b hb
  have zc := hz c hc
  have zd := hz d hd
  have zn := hz (min d (-1)) (by unfold inI at *; omega)
  have zp := hz (max c 1) (by unfold inI at *; omega)
  have e : sizesL c d = [ab c, ab (min d (-1)), ab (max c 1), ab d] := by unfold sizesL; rw [if_pos (by omega), if_pos (by omega)]; rfl
  have hlo : min (min (min (ab c) (ab (min d (-1)))) (ab (max c 1))) (ab d) = minL (sizesL c d) := by rw [e]; rfl
  have hhi : max (max (max (ab c) (ab (min d (-1)))) (ab (max c 1))) (ab d) = maxL (sizesL c d) := by rw [e]; rfl
  have hM := maxS hc hd hcd (by omega)
  obtain ⟨m1, m2⟩ := rest_end (a := a) (b := b) (lo := 0) hM
  simp only [t48x31, T.den, B.den, A.den, E.den, Cm.den, List.map, List.getD_cons_zero, List.getD_cons_succ, List.cons_append, List.nil_append, Bool.or_eq_true, Bool.and_eq_true, Bool.not_eq_true', decide_eq_true_eq, decide_eq_false_iff_not, beq_iff_eq, beq_eq_false_iff_ne, ne_eq, za, zb, zc, zd, zn, zp, f0, f1, fu, n, p, c2, show ¬ 0 < min d (-1) by omega, mn_eq, mx_eq, min_self', max_self', wrap64, wrapU, List.length_cons, List.length_nil, Nat.zero_add, Nat.reduceAdd, if_true, if_false, hlo, hhi, m1, m2, sel_t3, show ¬ (1 : Int) = 0 from by decide, not_false_eq_true, not_true_eq_false, and_self, and_true, true_and, and_false, false_and, or_false, or_true, false_or, or_self]
  exact rest_tail hM.1
theorem c48x31_010112 {F : Nat → List Int → Option (List Int)} {a b c d : Int} (g47 : F 47 = cornersS) (g83 : F 83 = addS) (g84 : F 84 = inS) (g104 : F 104 = sizeS) (hr : in4 a b c d) (hab : a ≤ b) (hcd : c ≤ d) (u1 : ¬ (a ≤ -9223372036854775808 ∧ -9223372036854775808 ≤ b)) (n : c < 0) (p : ¬ 0 < d) (u2 : (c ≤ -1 ∧ -1 ≤ d)) (c2 : c < -1) : t48x31.den F 0 [3, 1, a, b, c, d] = some (0, remR 1 a b c d) := by
  obtain ⟨ha, hb, hc, hd⟩ := hr
  have ha1 : -9223372036854775808 ≤ a := ha.1
  have hb1 : -9223372036854775808 ≤ b := hb.1
  have f0 : F 84 [0, c, d] = some [trapV c d] := by rw [g84]; rfl
  have f1 : F 84 [-9223372036854775808, a, b] = some [0] := by rw [g84]; exact congrArg (fun x => some [x]) (if_neg u1)
  have fu : undV 1 a b c d = 0 := if_neg (fun q => by omega)
  have q : remR 1 a b c d = [restL a b c d, restH a b c d, 1, trapV c d, undV 1 a b c d] := if_pos (by unfold someD LST; omega)
  rw [q]
  have hz : ∀ x, inI x → F 104 [x] = some [ab x] := fun x hx => by rw [g104]; exact if_pos hx
  have za := hz a ha
  have zb := hz b hb
  have zc := hz c hc
  have zd := hz d hd
  have zn := hz (min d (-1)) (by unfold inI at *; omega)
  have e : sizesL c d = [ab c, ab (min d (-1))] := by unfold sizesL; rw [if_pos (by omega), if_neg (by omega)]; rfl
  have hlo : min (ab c) (ab (min d (-1))) = minL (sizesL c d) := by rw [e]; rfl
  have hhi : max (ab c) (ab (min d (-1))) = maxL (sizesL c d) := by rw [e]; rfl
  have hM := maxS hc hd hcd (by omega)
  obtain ⟨m1, m2⟩ := rest_end (a := a) (b := b) (lo := 0) hM
  simp only [t48x31, T.den, B.den, A.den, E.den, Cm.den, List.map, List.getD_cons_zero, List.getD_cons_succ, List.cons_append, List.nil_append, Bool.or_eq_true, Bool.and_eq_true, Bool.not_eq_true', decide_eq_true_eq, decide_eq_false_iff_not, beq_iff_eq, beq_eq_false_iff_ne, ne_eq, za, zb, zc, zd, zn, f0, f1, fu, n, p, c2, show ¬ 0 < min d (-1) by omega, mn_eq, mx_eq, min_self', max_self', wrap64, wrapU, List.length_cons, List.length_nil, Nat.zero_add, Nat.reduceAdd, if_true, if_false, hlo, hhi, m1, m2, sel_t3, show ¬ (1 : Int) = 0 from by decide, not_false_eq_true, not_true_eq_false, and_self, and_true, true_and, and_false, false_and, or_false, or_true, false_or, or_self]
  exact rest_tail hM.1
theorem c48x31_010102 {F : Nat → List Int → Option (List Int)} {a b c d : Int} (g47 : F 47 = cornersS) (g83 : F 83 = addS) (g84 : F 84 = inS) (g104 : F 104 = sizeS) (hr : in4 a b c d) (hab : a ≤ b) (hcd : c ≤ d) (u1 : ¬ (a ≤ -9223372036854775808 ∧ -9223372036854775808 ≤ b)) (n : c < 0) (p : ¬ 0 < d) (u2 : (c ≤ -1 ∧ -1 ≤ d)) (c2 : ¬ c < -1) : t48x31.den F 0 [3, 1, a, b, c, d] = some (0, remR 1 a b c d) := by
  obtain ⟨ha, hb, hc, hd⟩ := hr
  have ha1 : -9223372036854775808 ≤ a := ha.1
  have hb1 : -9223372036854775808 ≤ b := hb.1
  have f0 : F 84 [0, c, d] = some [trapV c d] := by rw [g84]; rfl
  have f1 : F 84 [-9223372036854775808, a, b] = some [0] := by rw [g84]; exact congrArg (fun x => some [x]) (if_neg u1)
  have fu : undV 1 a b c d = 0 := if_neg (fun q => by omega)
  have q : remR 1 a b c d = [restL a b c d, restH a b c d, 1, trapV c d, undV 1 a b c d] := if_pos (by unfold someD LST; omega)
  rw [q]
  have hz : ∀ x, inI x → F 104 [x] = some [ab x] := fun x hx => by rw [g104]; exact if_pos hx
  have za := hz a ha
  have zb := hz b hb
  have zc := hz c hc
  have zd := hz d hd
  have zn := hz (min d (-1)) (by unfold inI at *; omega)
  have e : sizesL c d = [ab c, ab (min d (-1))] := by unfold sizesL; rw [if_pos (by omega), if_neg (by omega)]; rfl
  have hlo : min (ab c) (ab (min d (-1))) = minL (sizesL c d) := by rw [e]; rfl
  have hhi : max (ab c) (ab (min d (-1))) = maxL (sizesL c d) := by rw [e]; rfl
  have hM := maxS hc hd hcd (by omega)
  obtain ⟨m1, m2⟩ := rest_end (a := a) (b := b) (lo := 0) hM
  simp only [t48x31, T.den, B.den, A.den, E.den, Cm.den, List.map, List.getD_cons_zero, List.getD_cons_succ, List.cons_append, List.nil_append, Bool.or_eq_true, Bool.and_eq_true, Bool.not_eq_true', decide_eq_true_eq, decide_eq_false_iff_not, beq_iff_eq, beq_eq_false_iff_ne, ne_eq, za, zb, zc, zd, zn, f0, f1, fu, n, p, c2, show ¬ 0 < min d (-1) by omega, mn_eq, mx_eq, min_self', max_self', wrap64, wrapU, List.length_cons, List.length_nil, Nat.zero_add, Nat.reduceAdd, if_true, if_false, hlo, hhi, m1, m2, sel_t3, show ¬ (1 : Int) = 0 from by decide, not_false_eq_true, not_true_eq_false, and_self, and_true, true_and, and_false, false_and, or_false, or_true, false_or, or_self]
  exact rest_tail hM.1
theorem c48x31_010012 {F : Nat → List Int → Option (List Int)} {a b c d : Int} (g47 : F 47 = cornersS) (g83 : F 83 = addS) (g84 : F 84 = inS) (g104 : F 104 = sizeS) (hr : in4 a b c d) (hab : a ≤ b) (hcd : c ≤ d) (u1 : ¬ (a ≤ -9223372036854775808 ∧ -9223372036854775808 ≤ b)) (n : c < 0) (p : ¬ 0 < d) (u2 : ¬ (c ≤ -1 ∧ -1 ≤ d)) (c2 : c < -1) : t48x31.den F 0 [3, 1, a, b, c, d] = some (0, remR 1 a b c d) := by
  obtain ⟨ha, hb, hc, hd⟩ := hr
  have ha1 : -9223372036854775808 ≤ a := ha.1
  have hb1 : -9223372036854775808 ≤ b := hb.1
  have f0 : F 84 [0, c, d] = some [trapV c d] := by rw [g84]; rfl
  have f1 : F 84 [-9223372036854775808, a, b] = some [0] := by rw [g84]; exact congrArg (fun x => some [x]) (if_neg u1)
  have fu : undV 1 a b c d = 0 := if_neg (fun q => by omega)
  have q : remR 1 a b c d = [restL a b c d, restH a b c d, 1, trapV c d, undV 1 a b c d] := if_pos (by unfold someD LST; omega)
  rw [q]
  have hz : ∀ x, inI x → F 104 [x] = some [ab x] := fun x hx => by rw [g104]; exact if_pos hx
  have za := hz a ha
  have zb := hz b hb
  have zc := hz c hc
  have zd := hz d hd
  have zn := hz (min d (-1)) (by unfold inI at *; omega)
  have e : sizesL c d = [ab c, ab (min d (-1))] := by unfold sizesL; rw [if_pos (by omega), if_neg (by omega)]; rfl
  have hlo : min (ab c) (ab (min d (-1))) = minL (sizesL c d) := by rw [e]; rfl
  have hhi : max (ab c) (ab (min d (-1))) = maxL (sizesL c d) := by rw [e]; rfl
  have hM := maxS hc hd hcd (by omega)
  obtain ⟨m1, m2⟩ := rest_end (a := a) (b := b) (lo := 0) hM
  simp only [t48x31, T.den, B.den, A.den, E.den, Cm.den, List.map, List.getD_cons_zero, List.getD_cons_succ, List.cons_append, List.nil_append, Bool.or_eq_true, Bool.and_eq_true, Bool.not_eq_true', decide_eq_true_eq, decide_eq_false_iff_not, beq_iff_eq, beq_eq_false_iff_ne, ne_eq, za, zb, zc, zd, zn, f0, f1, fu, n, p, c2, show ¬ 0 < min d (-1) by omega, mn_eq, mx_eq, min_self', max_self', wrap64, wrapU, List.length_cons, List.length_nil, Nat.zero_add, Nat.reduceAdd, if_true, if_false, hlo, hhi, m1, m2, sel_t3, show ¬ (1 : Int) = 0 from by decide, not_false_eq_true, not_true_eq_false, and_self, and_true, true_and, and_false, false_and, or_false, or_true, false_or, or_self]
  exact rest_tail hM.1
theorem c48x31_001002 {F : Nat → List Int → Option (List Int)} {a b c d : Int} (g47 : F 47 = cornersS) (g83 : F 83 = addS) (g84 : F 84 = inS) (g104 : F 104 = sizeS) (hr : in4 a b c d) (hab : a ≤ b) (hcd : c ≤ d) (u1 : ¬ (a ≤ -9223372036854775808 ∧ -9223372036854775808 ≤ b)) (n : ¬ c < 0) (p : 0 < d) (u2 : ¬ (c ≤ -1 ∧ -1 ≤ d)) (c2 : ¬ c < -1) : t48x31.den F 0 [3, 1, a, b, c, d] = some (0, remR 1 a b c d) := by
  obtain ⟨ha, hb, hc, hd⟩ := hr
  have ha1 : -9223372036854775808 ≤ a := ha.1
  have hb1 : -9223372036854775808 ≤ b := hb.1
  have f0 : F 84 [0, c, d] = some [trapV c d] := by rw [g84]; rfl
  have f1 : F 84 [-9223372036854775808, a, b] = some [0] := by rw [g84]; exact congrArg (fun x => some [x]) (if_neg u1)
  have fu : undV 1 a b c d = 0 := if_neg (fun q => by omega)
  have q : remR 1 a b c d = [restL a b c d, restH a b c d, 1, trapV c d, undV 1 a b c d] := if_pos (by unfold someD LST; omega)
  rw [q]
  have hz : ∀ x, inI x → F 104 [x] = some [ab x] := fun x hx => by rw [g104]; exact if_pos hx
  have za := hz a ha
  have zb := hz b hb
  have zc := hz c hc
  have zd := hz d hd
  have zp := hz (max c 1) (by unfold inI at *; omega)
  have e : sizesL c d = [ab (max c 1), ab d] := by unfold sizesL; rw [if_neg (by omega), if_pos (by omega)]; rfl
  have hlo : min (ab (max c 1)) (ab d) = minL (sizesL c d) := by rw [e]; rfl
  have hhi : max (ab (max c 1)) (ab d) = maxL (sizesL c d) := by rw [e]; rfl
  have hM := maxS hc hd hcd (by omega)
  obtain ⟨m1, m2⟩ := rest_end (a := a) (b := b) (lo := 0) hM
  simp only [t48x31, T.den, B.den, A.den, E.den, Cm.den, List.map, List.getD_cons_zero, List.getD_cons_succ, List.cons_append, List.nil_append, Bool.or_eq_true, Bool.and_eq_true, Bool.not_eq_true', decide_eq_true_eq, decide_eq_false_iff_not, beq_iff_eq, beq_eq_false_iff_ne, ne_eq, za, zb, zc, zd, zp, f0, f1, fu, n, p, c2, mn_eq, mx_eq, min_self', max_self', wrap64, wrapU, List.length_cons, List.length_nil, Nat.zero_add, Nat.reduceAdd, if_true, if_false, hlo, hhi, m1, m2, sel_t3, show ¬ (1 : Int) = 0 from by decide, not_false_eq_true, not_true_eq_false, and_self, and_true, true_and, and_false, false_and, or_false, or_true, false_or, or_self]
  exact rest_tail hM.1
theorem c48x31_000002 {F : Nat → List Int → Option (List Int)} {a b c d : Int} (g47 : F 47 = cornersS) (g83 : F 83 = addS) (g84 : F 84 = inS) (g104 : F 104 = sizeS) (hr : in4 a b c d) (hab : a ≤ b) (hcd : c ≤ d) (u1 : ¬ (a ≤ -9223372036854775808 ∧ -9223372036854775808 ≤ b)) (n : ¬ c < 0) (p : ¬ 0 < d) (u2 : ¬ (c ≤ -1 ∧ -1 ≤ d)) (c2 : ¬ c < -1) : t48x31.den F 0 [3, 1, a, b, c, d] = some (0, remR 1 a b c d) := by
  obtain ⟨ha, hb, hc, hd⟩ := hr
  have ha1 : -9223372036854775808 ≤ a := ha.1
  have hb1 : -9223372036854775808 ≤ b := hb.1
  have f0 : F 84 [0, c, d] = some [trapV c d] := by rw [g84]; rfl
  have f1 : F 84 [-9223372036854775808, a, b] = some [0] := by rw [g84]; exact congrArg (fun x => some [x]) (if_neg u1)
  have fu : undV 1 a b c d = 0 := if_neg (fun q => by omega)
  have hn : ¬ someD b c d := by unfold someD LST; omega
  have q : remR 1 a b c d = [0, 0, 0, trapV c d, undV 1 a b c d] := if_neg hn
  rw [q]
  simp only [t48x31, T.den, B.den, A.den, E.den, Cm.den, List.map, List.getD_cons_zero, List.getD_cons_succ, List.cons_append, List.nil_append, Bool.or_eq_true, Bool.and_eq_true, Bool.not_eq_true', decide_eq_true_eq, decide_eq_false_iff_not, beq_iff_eq, beq_eq_false_iff_ne, ne_eq, f0, f1, fu, n, p, c2, List.length_cons, List.length_nil, Nat.zero_add, Nat.reduceAdd, if_true, if_false, sel_t3, mn_eq, show (!((1 : Int) == 0)) = true from rfl, Bool.and_self, Bool.true_eq_false, show ¬ (1 : Int) = 0 from by decide, not_false_eq_true, not_true_eq_false, and_self, and_true, true_and, and_false, false_and, or_false, or_true, false_or, or_self]
theorem c48x31 {F : Nat → List Int → Option (List Int)} {a b c d : Int} (g47 : F 47 = cornersS) (g83 : F 83 = addS) (g84 : F 84 = inS) (g104 : F 104 = sizeS) (hr : in4 a b c d) (hab : a ≤ b) (hcd : c ≤ d) : t48x31.den F 0 [3, 1, a, b, c, d] = some (0, remR 1 a b c d) := by
  by_cases u1 : a ≤ -9223372036854775808 ∧ -9223372036854775808 ≤ b <;> by_cases n : c < 0 <;> by_cases p : 0 < d <;> by_cases u2 : c ≤ -1 ∧ -1 ≤ d <;> by_cases c2 : c < -1 <;> by_cases m : -9223372036854775808 < b <;> first
    | (exfalso; omega)
    | exact c48x31_111111 g47 g83 g84 g104 hr hab hcd u1 n p u2 c2 m
    | exact c48x31_111110 g47 g83 g84 g104 hr hab hcd u1 n p u2 c2 m
    | exact c48x31_111101 g47 g83 g84 g104 hr hab hcd u1 n p u2 c2 m
    | exact c48x31_111100 g47 g83 g84 g104 hr hab hcd u1 n p u2 c2 m
    | exact c48x31_110111 g47 g83 g84 g104 hr hab hcd u1 n p u2 c2 m
    | exact c48x31_110110 g47 g83 g84 g104 hr hab hcd u1 n p u2 c2 m
    | exact c48x31_110101 g47 g83 g84 g104 hr hab hcd u1 n p u2 c2 m
    | exact c48x31_110100 g47 g83 g84 g104 hr hab hcd u1 n p u2 c2 m
    | exact c48x31_110012 g47 g83 g84 g104 hr hab hcd u1 n p u2 c2
    | exact c48x31_101002 g47 g83 g84 g104 hr hab hcd u1 n p u2 c2
    | exact c48x31_100002 g47 g83 g84 g104 hr hab hcd u1 n p u2 c2
    | exact c48x31_011112 g47 g83 g84 g104 hr hab hcd u1 n p u2 c2
    | exact c48x31_011102 g47 g83 g84 g104 hr hab hcd u1 n p u2 c2
    | exact c48x31_010112 g47 g83 g84 g104 hr hab hcd u1 n p u2 c2
    | exact c48x31_010102 g47 g83 g84 g104 hr hab hcd u1 n p u2 c2
    | exact c48x31_010012 g47 g83 g84 g104 hr hab hcd u1 n p u2 c2
    | exact c48x31_001002 g47 g83 g84 g104 hr hab hcd u1 n p u2 c2
    | exact c48x31_000002 g47 g83 g84 g104 hr hab hcd u1 n p u2 c2
theorem c48x32_011112 {F : Nat → List Int → Option (List Int)} {a b c d : Int} (g47 : F 47 = cornersS) (g83 : F 83 = addS) (g84 : F 84 = inS) (g104 : F 104 = sizeS) (hr : in4 a b c d) (hab : a ≤ b) (hcd : c ≤ d) (n : c < 0) (p : 0 < d) (u2 : (c ≤ -1 ∧ -1 ≤ d)) (c2 : c < -1) (k2 : 0 ≤ a) : t48x32.den F 0 [3, 2, a, b, c, d] = some (0, remR 2 a b c d) := by
  obtain ⟨ha, hb, hc, hd⟩ := hr
  have ha1 : -9223372036854775808 ≤ a := ha.1
  have hb1 : -9223372036854775808 ≤ b := hb.1
  have f0 : F 84 [0, c, d] = some [trapV c d] := by rw [g84]; rfl
  have fu : undV 2 a b c d = 0 := if_neg (fun q => absurd q.1 (by decide))
  have q : remR 2 a b c d = [restL a b c d, restH a b c d, 1, trapV c d, undV 2 a b c d] := if_pos (by unfold someD LST; omega)
  rw [q]
  have hz : ∀ x, inI x → F 104 [x] = some [ab x] := fun x hx => by rw [g104]; exact if_pos hx
  have za := hz a ha
  have zb := hz b hb
  have zc := hz c hc
  have zd := hz d hd
  have zn := hz (min d (-1)) (by unfold inI at *; omega)
  have zp := hz (max c 1) (by unfold inI at *; omega)
  have e : sizesL c d = [ab c, ab (min d (-1)), ab (max c 1), ab d] := by unfold sizesL; rw [if_pos (by omega), if_pos (by omega)]; rfl
  have hlo : min (min (min (ab c) (ab (min d (-1)))) (ab (max c 1))) (ab d) = minL (sizesL c d) := by rw [e]; rfl
  have hhi : max (max (max (ab c) (ab (min d (-1)))) (ab (max c 1))) (ab d) = maxL (sizesL c d) := by rw [e]; rfl
  have hM := maxS hc hd hcd (by omega)
  obtain ⟨m1, m2⟩ := rest_end (a := a) (b := b) (lo := 0) hM
  simp only [t48x32, T.den, B.den, A.den, E.den, Cm.den, List.map, List.getD_cons_zero, List.getD_cons_succ, List.cons_append, List.nil_append, Bool.or_eq_true, Bool.and_eq_true, Bool.not_eq_true', decide_eq_true_eq, decide_eq_false_iff_not, beq_iff_eq, beq_eq_false_iff_ne, ne_eq, za, zb, zc, zd, zn, zp, f0, fu, n, p, c2, show ¬ 0 < min d (-1) by omega, mn_eq, mx_eq, min_self', max_self', wrap64, wrapU, List.length_cons, List.length_nil, Nat.zero_add, Nat.reduceAdd, if_true, if_false, hlo, hhi, m1, m2, sel_t3, show ¬ (1 : Int) = 0 from by decide, not_false_eq_true, not_true_eq_false, and_self, and_true, true_and, and_false, false_and, or_false, or_true, false_or, or_self]
  exact rest_tail hM.1
theorem c48x32_011102 {F : Nat → List Int → Option (List Int)} {a b c d : Int} (g47 : F 47 = cornersS) (g83 : F 83 = addS) (g84 : F 84 = inS) (g104 : F 104 = sizeS) (hr : in4 a b c d) (hab : a ≤ b) (hcd : c ≤ d) (n : c < 0) (p : 0 < d) (u2 : (c ≤ -1 ∧ -1 ≤ d)) (c2 : ¬ c < -1) (k2 : 0 ≤ a) : t48x32.den F 0 [3, 2, a, b, c, d] = some (0, remR 2 a b c d) := by
  obtain ⟨ha, hb, hc, hd⟩ := hr
  have ha1 : -9223372036854775808 ≤ a := ha.1
  have hb1 : -9223372036854775808 ≤ b := hb.1
  have f0 : F 84 [0, c, d] = some [trapV c d] := by rw [g84]; rfl
  have fu : undV 2 a b c d = 0 := if_neg (fun q => absurd q.1 (by decide))
  have q : remR 2 a b c d = [restL a b c d, restH a b c d, 1, trapV c d, undV 2 a b c d] := if_pos (by unfold someD LST; omega)
  rw [q]
  have hz : ∀ x, inI x → F 104 [x] = some [ab x] := fun x hx => by rw [g104]; exact if_pos hx
  have za := hz a ha
  have zb := hz b hb
  have zc := hz c hc
  have zd := hz d hd
  have zn := hz (min d (-1)) (by unfold inI at *; omega)
  have zp := hz (max c 1) (by unfold inI at *; omega)
  have e : sizesL c d = [ab c, ab (min d (-1)), ab (max c 1), ab d] := by unfold sizesL; rw [if_pos (by omega), if_pos (by omega)]; rfl
  have hlo : min (min (min (ab c) (ab (min d (-1)))) (ab (max c 1))) (ab d) = minL (sizesL c d) := by rw [e]; rfl
  have hhi : max (max (max (ab c) (ab (min d (-1)))) (ab (max c 1))) (ab d) = maxL (sizesL c d) := by rw [e]; rfl
  have hM := maxS hc hd hcd (by omega)
  obtain ⟨m1, m2⟩ := rest_end (a := a) (b := b) (lo := 0) hM
  simp only [t48x32, T.den, B.den, A.den, E.den, Cm.den, List.map, List.getD_cons_zero, List.getD_cons_succ, List.cons_append, List.nil_append, Bool.or_eq_true, Bool.and_eq_true, Bool.not_eq_true', decide_eq_true_eq, decide_eq_false_iff_not, beq_iff_eq, beq_eq_false_iff_ne, ne_eq, za, zb, zc, zd, zn, zp, f0, fu, n, p, c2, show ¬ 0 < min d (-1) by omega, mn_eq, mx_eq, min_self', max_self', wrap64, wrapU, List.length_cons, List.length_nil, Nat.zero_add, Nat.reduceAdd, if_true, if_false, hlo, hhi, m1, m2, sel_t3, show ¬ (1 : Int) = 0 from by decide, not_false_eq_true, not_true_eq_false, and_self, and_true, true_and, and_false, false_and, or_false, or_true, false_or, or_self]
  exact rest_tail hM.1
theorem c48x32_010112 {F : Nat → List Int → Option (List Int)} {a b c d : Int} (g47 : F 47 = cornersS) (g83 : F 83 = addS) (g84 : F 84 = inS) (g104 : F 104 = sizeS) (hr : in4 a b c d) (hab : a ≤ b) (hcd : c ≤ d) (n : c < 0) (p : ¬ 0 < d) (u2 : (c ≤ -1 ∧ -1 ≤ d)) (c2 : c < -1) (k2 : 0 ≤ a) : t48x32.den F 0 [3, 2, a, b, c, d] = some (0, remR 2 a b c d) := by
  obtain ⟨ha, hb, hc, hd⟩ := hr
  have ha1 : -9223372036854775808 ≤ a := ha.1
  have hb1 : -9223372036854775808 ≤ b := hb.1
  have f0 : F 84 [0, c, d] = some [trapV c d] := by rw [g84]; rfl
  have fu : undV 2 a b c d = 0 := if_neg (fun q => absurd q.1 (by decide))
  have q : remR 2 a b c d = [restL a b c d, restH a b c d, 1, trapV c d, undV 2 a b c d] := if_pos (by unfold someD LST; omega)
  rw [q]
  have hz : ∀ x, inI x → F 104 [x] = some [ab x] := fun x hx => by rw [g104]; exact if_pos hx
  have za := hz a ha
  have zb := hz b hb
  have zc := hz c hc
  have zd := hz d hd
  have zn := hz (min d (-1)) (by unfold inI at *; omega)
  have e : sizesL c d = [ab c, ab (min d (-1))] := by unfold sizesL; rw [if_pos (by omega), if_neg (by omega)]; rfl
  have hlo : min (ab c) (ab (min d (-1))) = minL (sizesL c d) := by rw [e]; rfl
  have hhi : max (ab c) (ab (min d (-1))) = maxL (sizesL c d) := by rw [e]; rfl
  have hM := maxS hc hd hcd (by omega)
  obtain ⟨m1, m2⟩ := rest_end (a := a) (b := b) (lo := 0) hM
  simp only [t48x32, T.den, B.den, A.den, E.den, Cm.den, List.map, List.getD_cons_zero, List.getD_cons_succ, List.cons_append, List.nil_append, Bool.or_eq_true, Bool.and_eq_true, Bool.not_eq_true', decide_eq_true_eq, decide_eq_false_iff_not, beq_iff_eq, beq_eq_false_iff_ne, ne_eq, za, zb, zc, zd, zn, f0, fu, n, p, c2, show ¬ 0 < min d (-1) by omega, mn_eq, mx_eq, min_self', max_self', wrap64, wrapU, List.length_cons, List.length_nil, Nat.zero_add, Nat.reduceAdd, if_true, if_false, hlo, hhi, m1, m2, sel_t3, show ¬ (1 : Int) = 0 from by decide, not_false_eq_true, not_true_eq_false, and_self, and_true, true_and, and_false, false_and, or_false, or_true, false_or, or_self]
  exact rest_tail hM.1
theorem c48x32_010102 {F : Nat → List Int → Option (List Int)} {a b c d : Int} (g47 : F 47 = cornersS) (g83 : F 83 = addS) (g84 : F 84 = inS) (g104 : F 104 = sizeS) (hr : in4 a b c d) (hab : a ≤ b) (hcd : c ≤ d) (n : c < 0) (p : ¬ 0 < d) (u2 : (c ≤ -1 ∧ -1 ≤ d)) (c2 : ¬ c < -1) (k2 : 0 ≤ a) : t48x32.den F 0 [3, 2, a, b, c, d] = some (0, remR 2 a b c d) := by
  obtain ⟨ha, hb, hc, hd⟩ := hr
  have ha1 : -9223372036854775808 ≤ a := ha.1
  have hb1 : -9223372036854775808 ≤ b := hb.1
  have f0 : F 84 [0, c, d] = some [trapV c d] := by rw [g84]; rfl
  have fu : undV 2 a b c d = 0 := if_neg (fun q => absurd q.1 (by decide))
  have q : remR 2 a b c d = [restL a b c d, restH a b c d, 1, trapV c d, undV 2 a b c d] := if_pos (by unfold someD LST; omega)
  rw [q]
  have hz : ∀ x, inI x → F 104 [x] = some [ab x] := fun x hx => by rw [g104]; exact if_pos hx
  have za := hz a ha
  have zb := hz b hb
  have zc := hz c hc
  have zd := hz d hd
  have zn := hz (min d (-1)) (by unfold inI at *; omega)
  have e : sizesL c d = [ab c, ab (min d (-1))] := by unfold sizesL; rw [if_pos (by omega), if_neg (by omega)]; rfl
  have hlo : min (ab c) (ab (min d (-1))) = minL (sizesL c d) := by rw [e]; rfl
  have hhi : max (ab c) (ab (min d (-1))) = maxL (sizesL c d) := by rw [e]; rfl
  have hM := maxS hc hd hcd (by omega)
  obtain ⟨m1, m2⟩ := rest_end (a := a) (b := b) (lo := 0) hM
  simp only [t48x32, T.den, B.den, A.den, E.den, Cm.den, List.map, List.getD_cons_zero, List.getD_cons_succ, List.cons_append, List.nil_append, Bool.or_eq_true, Bool.and_eq_true, Bool.not_eq_true', decide_eq_true_eq, decide_eq_false_iff_not, beq_iff_eq, beq_eq_false_iff_ne, ne_eq, za, zb, zc, zd, zn, f0, fu, n, p, c2, show ¬ 0 < min d (-1) by omega, mn_eq, mx_eq, min_self', max_self', wrap64, wrapU, List.length_cons, List.length_nil, Nat.zero_add, Nat.reduceAdd, if_true, if_false, hlo, hhi, m1, m2, sel_t3, show ¬ (1 : Int) = 0 from by decide, not_false_eq_true, not_true_eq_false, and_self, and_true, true_and, and_false, false_and, or_false, or_true, false_or, or_self]
  exact rest_tail hM.1
theorem c48x32_010012 {F : Nat → List Int → Option (List Int)} {a b c d : Int} (g47 : F 47 = cornersS) (g83 : F 83 = addS) (g84 : F 84 = inS) (g104 : F 104 = sizeS) (hr : in4 a b c d) (hab : a ≤ b) (hcd : c ≤ d) (n : c < 0) (p : ¬ 0 < d) (u2 : ¬ (c ≤ -1 ∧ -1 ≤ d)) (c2 : c < -1) (k2 : 0 ≤ a) : t48x32.den F 0 [3, 2, a, b, c, d] = some (0, remR 2 a b c d) := by
  obtain ⟨ha, hb, hc, hd⟩ := hr
  have ha1 : -9223372036854775808 ≤ a := ha.1
  have hb1 : -9223372036854775808 ≤ b := hb.1
  have f0 : F 84 [0, c, d] = some [trapV c d] := by rw [g84]; rfl
  have fu : undV 2 a b c d = 0 := if_neg (fun q => absurd q.1 (by decide))
  have q : remR 2 a b c d = [restL a b c d, restH a b c d, 1, trapV c d, undV 2 a b c d] := if_pos (by unfold someD LST; omega)
  rw [q]
  have hz : ∀ x, inI x → F 104 [x] = some [ab x] := fun x hx => by rw [g104]; exact if_pos hx
  have za := hz a ha
  have zb := hz b hb
  have zc := hz c hc
  have zd := hz d hd
  have zn := hz (min d (-1)) (by unfold inI at *; omega)
  have e : sizesL c d = [ab c, ab (min d (-1))] := by unfold sizesL; rw [if_pos (by omega), if_neg (by omega)]; rfl
  have hlo : min (ab c) (ab (min d (-1))) = minL (sizesL c d) := by rw [e]; rfl
  have hhi : max (ab c) (ab (min d (-1))) = maxL (sizesL c d) := by rw [e]; rfl
  have hM := maxS hc hd hcd (by omega)
  obtain ⟨m1, m2⟩ := rest_end (a := a) (b := b) (lo := 0) hM
  simp only [t48x32, T.den, B.den, A.den, E.den, Cm.den, List.map, List.getD_cons_zero, List.getD_cons_succ, List.cons_append, List.nil_append, Bool.or_eq_true, Bool.and_eq_true, Bool.not_eq_true', decide_eq_true_eq, decide_eq_false_iff_not, beq_iff_eq, beq_eq_false_iff_ne, ne_eq, za, zb, zc, zd, zn, f0, fu, n, p, c2, show ¬ 0 < min d (-1) by omega, mn_eq, mx_eq, min_self', max_self', wrap64, wrapU, List.length_cons, List.length_nil, Nat.zero_add, Nat.reduceAdd, if_true, if_false, hlo, hhi, m1, m2, sel_t3, show ¬ (1 : Int) = 0 from by decide, not_false_eq_true, not_true_eq_false, and_self, and_true, true_and, and_false, false_and, or_false, or_true, false_or, or_self]
  exact rest_tail hM.1
theorem c48x32_001002 {F : Nat → List Int → Option (List Int)} {a b c d : Int} (g47 : F 47 = cornersS) (g83 : F 83 = addS) (g84 : F 84 = inS) (g104 : F 104 = sizeS) (hr : in4 a b c d) (hab : a ≤ b) (hcd : c ≤ d) (n : ¬ c < 0) (p : 0 < d) (u2 : ¬ (c ≤ -1 ∧ -1 ≤ d)) (c2 : ¬ c < -1) (k2 : 0 ≤ a) : t48x32.den F 0 [3, 2, a, b, c, d] = some (0, remR 2 a b c d) := by
  obtain ⟨ha, hb, hc, hd⟩ := hr
  have ha1 : -9223372036854775808 ≤ a := ha.1
  have hb1 : -9223372036854775808 ≤ b := hb.1
  have f0 : F 84 [0, c, d] = some [trapV c d] := by rw [g84]; rfl
  have fu : undV 2 a b c d = 0 := if_neg (fun q => absurd q.1 (by decide))
  have q : remR 2 a b c d = [restL a b c d, restH a b c d, 1, trapV c d, undV 2 a b c d] := if_pos (by unfold someD LST; omega)
  rw [q]
  have hz : ∀ x, inI x → F 104 [x] = some [ab x] := fun x hx => by rw [g104]; exact if_pos hx
  have za := hz a ha
  have zb := hz b hb
  have zc := hz c hc
  have zd := hz d hd
  have zp := hz (max c 1) (by unfold inI at *; omega)
  have e : sizesL c d = [ab (max c 1), ab d] := by unfold sizesL; rw [if_neg (by omega), if_pos (by omega)]; rfl
  have hlo : min (ab (max c 1)) (ab d) = minL (sizesL c d) := by rw [e]; rfl
  have hhi : max (ab (max c 1)) (ab d) = maxL (sizesL c d) := by rw [e]; rfl
  have hM := maxS hc hd hcd (by omega)
  obtain ⟨m1, m2⟩ := rest_end (a := a) (b := b) (lo := 0) hM
  simp only [t48x32, T.den, B.den, A.den, E.den, Cm.den, List.map, List.getD_cons_zero, List.getD_cons_succ, List.cons_append, List.nil_append, Bool.or_eq_true, Bool.and_eq_true, Bool.not_eq_true', decide_eq_true_eq, decide_eq_false_iff_not, beq_iff_eq, beq_eq_false_iff_ne, ne_eq, za, zb, zc, zd, zp, f0, fu, n, p, c2, mn_eq, mx_eq, min_self', max_self', wrap64, wrapU, List.length_cons, List.length_nil, Nat.zero_add, Nat.reduceAdd, if_true, if_false, hlo, hhi, m1, m2, sel_t3, show ¬ (1 : Int) = 0 from by decide, not_false_eq_true, not_true_eq_false, and_self, and_true, true_and, and_false, false_and, or_false, or_true, false_or, or_self]
  exact rest_tail hM.1
theorem c48x32_000002 {F : Nat → List Int → Option (List Int)} {a b c d : Int} (g47 : F 47 = cornersS) (g83 : F 83 = addS) (g84 : F 84 = inS) (g104 : F 104 = sizeS) (hr : in4 a b c d) (hab : a ≤ b) (hcd : c ≤ d) (n : ¬ c < 0) (p : ¬ 0 < d) (u2 : ¬ (c ≤ -1 ∧ -1 ≤ d)) (c2 : ¬ c < -1) (k2 : 0 ≤ a) : t48x32.den F 0 [3, 2, a, b, c, d] = some (0, remR 2 a b c d) := by
  obtain ⟨ha, hb, hc, hd⟩ := hr
  have ha1 : -9223372036854775808 ≤ a := ha.1
  have hb1 : -9223372036854775808 ≤ b := hb.1
  have f0 : F 84 [0, c, d] = some [trapV c d] := by rw [g84]; rfl
  have fu : undV 2 a b c d = 0 := if_neg (fun q => absurd q.1 (by decide))
  have hn : ¬ someD b c d := by unfold someD LST; omega
  have q : remR 2 a b c d = [0, 0, 0, trapV c d, undV 2 a b c d] := if_neg hn
  rw [q]
  simp only [t48x32, T.den, B.den, A.den, E.den, Cm.den, List.map, List.getD_cons_zero, List.getD_cons_succ, List.cons_append, List.nil_append, Bool.or_eq_true, Bool.and_eq_true, Bool.not_eq_true', decide_eq_true_eq, decide_eq_false_iff_not, beq_iff_eq, beq_eq_false_iff_ne, ne_eq, f0, fu, n, p, c2, List.length_cons, List.length_nil, Nat.zero_add, Nat.reduceAdd, if_true, if_false, sel_t3, mn_eq, show (!((1 : Int) == 0)) = true from rfl, Bool.and_self, Bool.true_eq_false, show ¬ (1 : Int) = 0 from by decide, not_false_eq_true, not_true_eq_false, and_self, and_true, true_and, and_false, false_and, or_false, or_true, false_or, or_self]
theorem c48x32 {F : Nat → List Int → Option (List Int)} {a b c d : Int} (g47 : F 47 = cornersS) (g83 : F 83 = addS) (g84 : F 84 = inS) (g104 : F 104 = sizeS) (hr : in4 a b c d) (hab : a ≤ b) (hcd : c ≤ d) (k2 : 0 ≤ a) : t48x32.den F 0 [3, 2, a, b, c, d] = some (0, remR 2 a b c d) := by
  by_cases n : c < 0 <;> by_cases p : 0 < d <;> by_cases u2 : c ≤ -1 ∧ -1 ≤ d <;> by_cases c2 : c < -1 <;> by_cases m : -9223372036854775808 < b <;> first
    | (exfalso; omega)
    | exact c48x32_011112 g47 g83 g84 g104 hr hab hcd n p u2 c2 k2
    | exact c48x32_011102 g47 g83 g84 g104 hr hab hcd n p u2 c2 k2
    | exact c48x32_010112 g47 g83 g84 g104 hr hab hcd n p u2 c2 k2
    | exact c48x32_010102 g47 g83 g84 g104 hr hab hcd n p u2 c2 k2
    | exact c48x32_010012 g47 g83 g84 g104 hr hab hcd n p u2 c2 k2
    | exact c48x32_001002 g47 g83 g84 g104 hr hab hcd n p u2 c2 k2
    | exact c48x32_000002 g47 g83 g84 g104 hr hab hcd n p u2 c2 k2
noncomputable def dividedS : List Int → Option (List Int)
  | [op, k, a, b, c, d] => if (op = 2 ∨ op = 3) ∧ (k = 1 ∨ (k = 2 ∧ 0 ≤ a)) ∧ in4 a b c d ∧ a ≤ b ∧ c ≤ d then some (if op = 2 then quotR k a b c d else remR k a b c d) else none
  | _ => none
noncomputable def p48 : Sp := (48, sg48, dividedS)
theorem e48 : Ent p48 := by
  intro args rs w h hl hg
  match args, hl with
  | [op, k, a, b, c, d], _ =>
    simp only [p48, dividedS] at h
    split at h
    · rename_i hr
      cases h
      obtain ⟨hop, hk, h4, hab, hcd⟩ := hr
      rcases hop with rfl | rfl <;> rcases hk with rfl | ⟨rfl, k2⟩
      · exact ent_run unAll (l := [p47, p83, p84, p104]) (ents_cons e47 (ents_cons e83 (ents_cons e84 (ents_cons e104 ents_nil)))) (is := [2, 1, a, b, c, d]) (K := 0) q48x21 rfl rfl (by kernel_rfl) (fun _ h => absurd h List.not_mem_nil) (fun _ h => absurd h List.not_mem_nil) hg (c48x21 rfl rfl rfl rfl h4 hab hcd)
      · exact ent_run unAll (l := [p47, p83, p84, p104]) (ents_cons e47 (ents_cons e83 (ents_cons e84 (ents_cons e104 ents_nil)))) (is := [2, 2, a, b, c, d]) (K := 0) q48x22 rfl rfl (by kernel_rfl) (fun _ h => absurd h List.not_mem_nil) (fun _ h => absurd h List.not_mem_nil) hg (c48x22 rfl rfl rfl rfl h4 hab hcd k2)
      · exact ent_run unAll (l := [p47, p83, p84, p104]) (ents_cons e47 (ents_cons e83 (ents_cons e84 (ents_cons e104 ents_nil)))) (is := [3, 1, a, b, c, d]) (K := 0) q48x31 rfl rfl (by kernel_rfl) (fun _ h => absurd h List.not_mem_nil) (fun _ h => absurd h List.not_mem_nil) hg (c48x31 rfl rfl rfl rfl h4 hab hcd)
      · exact ent_run unAll (l := [p47, p83, p84, p104]) (ents_cons e47 (ents_cons e83 (ents_cons e84 (ents_cons e104 ents_nil)))) (is := [3, 2, a, b, c, d]) (K := 0) q48x32 rfl rfl (by kernel_rfl) (fun _ h => absurd h List.not_mem_nil) (fun _ h => absurd h List.not_mem_nil) hg (c48x32 rfl rfl rfl rfl h4 hab hcd k2)
    · cases h
end Go.SXR

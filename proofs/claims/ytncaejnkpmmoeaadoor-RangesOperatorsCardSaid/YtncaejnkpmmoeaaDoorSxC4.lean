/- RANGES: Binary of the reference. -/
import Derived.Test.YtncaejnkpmmoeaaDoorSxC3
set_option linter.unusedVariables false
set_option linter.unusedSimpArgs false
namespace Go.SXR
open Go Go.SX Go.Proofs Go.RowKit

def sg28 : Sig := ⟨[I, I, RG, RG], [EFF, I]⟩
theorem br_small {lo hi : Int} (h1 : 0 ≤ lo) (h2 : lo ≤ hi) (h3 : hi ≤ 255) : br 2 lo hi = [lo, hi] := by
  rw [br_2 (by unfold inI; omega), if_pos (by omega), show lo % 256 = lo by omega, show hi % 256 = hi by omega]
theorem br_shr {k a b c d : Int} (hk : k = 1 ∨ k = 2) (ha : inI a) (hb : inI b) (o1 : okR k a b) (hab : a ≤ b) (h0 : 0 ≤ c) (hcd : c ≤ d) : br k (q4 shrF a b c d).1 (q4 shrF a b c d).2 = [(q4 shrF a b c d).1, (q4 shrF a b c d).2] := by
  rcases hk with rfl | rfl
  · exact br_1 (in4s ⟨shr_in ha, shr_in ha, shr_in hb, shr_in hb⟩)
  · have hr : 0 ≤ a ∧ b ≤ 255 := by unfold okR at o1; omega
    have e := ext_shr (a := a) (b := b) (c := c) (d := d) hab hcd h0
    have hle := e.le
    obtain ⟨v, w, hb1, e1⟩ := e.low
    obtain ⟨v', w', hb2, e2⟩ := e.high
    have p1 := (ediv_btw0 (x := v) (p2_pos w)).1 (by unfold Box at hb1; omega)
    have p2' := (ediv_btw0 (x := v') (p2_pos w')).1 (by unfold Box at hb2; omega)
    refine br_small ?_ hle ?_
    · show 0 ≤ lo4 (a / p2 c) (a / p2 d) (b / p2 c) (b / p2 d); rw [← e1]; exact p1.1
    · show hi4 (a / p2 c) (a / p2 d) (b / p2 c) (b / p2 d) ≤ 255; rw [← e2]; unfold Box at hb2; omega
def t28x1 : T := (.br (.or (.cmp .eq (.v 1) (.n 1)) (.cmp .eq (.v 1) (.n 2))) (.call 22 [(.v 1), (.v 2), (.v 3)] 1 (.br (.not (.or (.not (.or (.cmp .eq (.v 1) (.n 1)) (.cmp .eq (.v 1) (.n 2)))) (.not (.cmp .eq (.v 6) (.n 0))))) (.call 22 [(.v 1), (.v 4), (.v 5)] 1 (.br (.or (.or (.not (.or (.cmp .eq (.v 1) (.n 1)) (.cmp .eq (.v 1) (.n 2)))) (.not (.cmp .eq (.v 6) (.n 0)))) (.not (.cmp .eq (.v 7) (.n 0)))) (.ret [(.n 0), (.n 0), (.n 0), (.n 0), (.n 0), (.n 2)]) (.call 47 [(.n 1), (.v 2), (.v 3), (.v 4), (.v 5)] 3 (.lt (.sel (.not (.cmp .eq (.v 10) (.n 0))) (.n 1) (.n 0)) (.call 46 [(.v 8), (.v 9), (.v 11), (.v 1)] 2 (.ret [(.v 12), (.v 13), (.n 1), (.n 0), (.n 0), (.n 0)])))))) (.ret [(.n 0), (.n 0), (.n 0), (.n 0), (.n 0), (.n 2)]))) (.ret [(.n 0), (.n 0), (.n 0), (.n 0), (.n 0), (.n 2)]))
theorem q28x1 : sxRun (Cf [p22, p46, p47, p48, p49, p50, p51] unAll) 200 28 sg28 ((mkS 0 sg28.ins).map (subst [(0, 1)])) [] = t28x1 := by kernel_rfl
def t28x2 : T := (.br (.or (.cmp .eq (.v 1) (.n 1)) (.cmp .eq (.v 1) (.n 2))) (.call 22 [(.v 1), (.v 2), (.v 3)] 1 (.br (.not (.or (.not (.or (.cmp .eq (.v 1) (.n 1)) (.cmp .eq (.v 1) (.n 2)))) (.not (.cmp .eq (.v 6) (.n 0))))) (.call 22 [(.v 1), (.v 4), (.v 5)] 1 (.br (.or (.or (.not (.or (.cmp .eq (.v 1) (.n 1)) (.cmp .eq (.v 1) (.n 2)))) (.not (.cmp .eq (.v 6) (.n 0)))) (.not (.cmp .eq (.v 7) (.n 0)))) (.ret [(.n 0), (.n 0), (.n 0), (.n 0), (.n 0), (.n 2)]) (.call 48 [(.n 2), (.v 1), (.v 2), (.v 3), (.v 4), (.v 5)] 5 (.lt (.sel (.not (.cmp .eq (.v 10) (.n 0))) (.n 1) (.n 0)) (.lt (.sel (.not (.cmp .eq (.v 11) (.n 0))) (.n 1) (.n 0)) (.lt (.sel (.not (.cmp .eq (.v 12) (.n 0))) (.n 1) (.n 0)) (.ret [(.v 8), (.v 9), (.v 13), (.v 14), (.v 15), (.n 0)]))))))) (.ret [(.n 0), (.n 0), (.n 0), (.n 0), (.n 0), (.n 2)]))) (.ret [(.n 0), (.n 0), (.n 0), (.n 0), (.n 0), (.n 2)]))
theorem q28x2 : sxRun (Cf [p22, p46, p47, p48, p49, p50, p51] unAll) 200 28 sg28 ((mkS 0 sg28.ins).map (subst [(0, 2)])) [] = t28x2 := by kernel_rfl
def t28x3 : T := (.br (.or (.cmp .eq (.v 1) (.n 1)) (.cmp .eq (.v 1) (.n 2))) (.call 22 [(.v 1), (.v 2), (.v 3)] 1 (.br (.not (.or (.not (.or (.cmp .eq (.v 1) (.n 1)) (.cmp .eq (.v 1) (.n 2)))) (.not (.cmp .eq (.v 6) (.n 0))))) (.call 22 [(.v 1), (.v 4), (.v 5)] 1 (.br (.or (.or (.not (.or (.cmp .eq (.v 1) (.n 1)) (.cmp .eq (.v 1) (.n 2)))) (.not (.cmp .eq (.v 6) (.n 0)))) (.not (.cmp .eq (.v 7) (.n 0)))) (.ret [(.n 0), (.n 0), (.n 0), (.n 0), (.n 0), (.n 2)]) (.call 48 [(.n 3), (.v 1), (.v 2), (.v 3), (.v 4), (.v 5)] 5 (.lt (.sel (.not (.cmp .eq (.v 10) (.n 0))) (.n 1) (.n 0)) (.lt (.sel (.not (.cmp .eq (.v 11) (.n 0))) (.n 1) (.n 0)) (.lt (.sel (.not (.cmp .eq (.v 12) (.n 0))) (.n 1) (.n 0)) (.ret [(.v 8), (.v 9), (.v 13), (.v 14), (.v 15), (.n 0)]))))))) (.ret [(.n 0), (.n 0), (.n 0), (.n 0), (.n 0), (.n 2)]))) (.ret [(.n 0), (.n 0), (.n 0), (.n 0), (.n 0), (.n 2)]))
theorem q28x3 : sxRun (Cf [p22, p46, p47, p48, p49, p50, p51] unAll) 200 28 sg28 ((mkS 0 sg28.ins).map (subst [(0, 3)])) [] = t28x3 := by kernel_rfl
def t28x4 : T := (.br (.or (.cmp .eq (.v 1) (.n 1)) (.cmp .eq (.v 1) (.n 2))) (.call 22 [(.v 1), (.v 2), (.v 3)] 1 (.br (.not (.or (.not (.or (.cmp .eq (.v 1) (.n 1)) (.cmp .eq (.v 1) (.n 2)))) (.not (.cmp .eq (.v 6) (.n 0))))) (.call 22 [(.v 1), (.v 4), (.v 5)] 1 (.br (.or (.or (.not (.or (.cmp .eq (.v 1) (.n 1)) (.cmp .eq (.v 1) (.n 2)))) (.not (.cmp .eq (.v 6) (.n 0)))) (.not (.cmp .eq (.v 7) (.n 0)))) (.ret [(.n 0), (.n 0), (.n 0), (.n 0), (.n 0), (.n 2)]) (.call 47 [(.n 4), (.v 2), (.v 3), (.v 4), (.v 5)] 3 (.lt (.sel (.not (.cmp .eq (.v 10) (.n 0))) (.n 1) (.n 0)) (.call 46 [(.v 8), (.v 9), (.v 11), (.v 1)] 2 (.ret [(.v 12), (.v 13), (.n 1), (.n 0), (.n 0), (.n 0)])))))) (.ret [(.n 0), (.n 0), (.n 0), (.n 0), (.n 0), (.n 2)]))) (.ret [(.n 0), (.n 0), (.n 0), (.n 0), (.n 0), (.n 2)]))
theorem q28x4 : sxRun (Cf [p22, p46, p47, p48, p49, p50, p51] unAll) 200 28 sg28 ((mkS 0 sg28.ins).map (subst [(0, 4)])) [] = t28x4 := by kernel_rfl
def t28x5 : T := (.br (.or (.cmp .eq (.v 1) (.n 1)) (.cmp .eq (.v 1) (.n 2))) (.call 22 [(.v 1), (.v 2), (.v 3)] 1 (.br (.not (.or (.not (.or (.cmp .eq (.v 1) (.n 1)) (.cmp .eq (.v 1) (.n 2)))) (.not (.cmp .eq (.v 6) (.n 0))))) (.call 22 [(.v 1), (.v 4), (.v 5)] 1 (.br (.or (.or (.not (.or (.cmp .eq (.v 1) (.n 1)) (.cmp .eq (.v 1) (.n 2)))) (.not (.cmp .eq (.v 6) (.n 0)))) (.not (.cmp .eq (.v 7) (.n 0)))) (.ret [(.n 0), (.n 0), (.n 0), (.n 0), (.n 0), (.n 2)]) (.call 47 [(.n 5), (.v 2), (.v 3), (.v 4), (.v 5)] 3 (.lt (.sel (.not (.cmp .eq (.v 10) (.n 0))) (.n 1) (.n 0)) (.call 46 [(.v 8), (.v 9), (.v 11), (.v 1)] 2 (.ret [(.v 12), (.v 13), (.n 1), (.n 0), (.n 0), (.n 0)])))))) (.ret [(.n 0), (.n 0), (.n 0), (.n 0), (.n 0), (.n 2)]))) (.ret [(.n 0), (.n 0), (.n 0), (.n 0), (.n 0), (.n 2)]))
theorem q28x5 : sxRun (Cf [p22, p46, p47, p48, p49, p50, p51] unAll) 200 28 sg28 ((mkS 0 sg28.ins).map (subst [(0, 5)])) [] = t28x5 := by kernel_rfl
def t28x6 : T := (.br (.or (.cmp .eq (.v 1) (.n 1)) (.cmp .eq (.v 1) (.n 2))) (.call 22 [(.v 1), (.v 2), (.v 3)] 1 (.br (.not (.or (.not (.or (.cmp .eq (.v 1) (.n 1)) (.cmp .eq (.v 1) (.n 2)))) (.not (.cmp .eq (.v 6) (.n 0))))) (.call 22 [(.v 1), (.v 4), (.v 5)] 1 (.br (.or (.or (.not (.or (.cmp .eq (.v 1) (.n 1)) (.cmp .eq (.v 1) (.n 2)))) (.not (.cmp .eq (.v 6) (.n 0)))) (.not (.cmp .eq (.v 7) (.n 0)))) (.ret [(.n 0), (.n 0), (.n 0), (.n 0), (.n 0), (.n 2)]) (.call 49 [(.n 6), (.v 1), (.v 2), (.v 3), (.v 4), (.v 5)] 5 (.lt (.sel (.not (.cmp .eq (.v 10) (.n 0))) (.n 1) (.n 0)) (.lt (.sel (.not (.cmp .eq (.v 11) (.n 0))) (.n 1) (.n 0)) (.lt (.sel (.not (.cmp .eq (.v 12) (.n 0))) (.n 1) (.n 0)) (.ret [(.v 8), (.v 9), (.v 13), (.v 14), (.v 15), (.n 0)]))))))) (.ret [(.n 0), (.n 0), (.n 0), (.n 0), (.n 0), (.n 2)]))) (.ret [(.n 0), (.n 0), (.n 0), (.n 0), (.n 0), (.n 2)]))
theorem q28x6 : sxRun (Cf [p22, p46, p47, p48, p49, p50, p51] unAll) 200 28 sg28 ((mkS 0 sg28.ins).map (subst [(0, 6)])) [] = t28x6 := by kernel_rfl
def t28x7 : T := (.br (.or (.cmp .eq (.v 1) (.n 1)) (.cmp .eq (.v 1) (.n 2))) (.call 22 [(.v 1), (.v 2), (.v 3)] 1 (.br (.not (.or (.not (.or (.cmp .eq (.v 1) (.n 1)) (.cmp .eq (.v 1) (.n 2)))) (.not (.cmp .eq (.v 6) (.n 0))))) (.call 22 [(.v 1), (.v 4), (.v 5)] 1 (.br (.or (.or (.not (.or (.cmp .eq (.v 1) (.n 1)) (.cmp .eq (.v 1) (.n 2)))) (.not (.cmp .eq (.v 6) (.n 0)))) (.not (.cmp .eq (.v 7) (.n 0)))) (.ret [(.n 0), (.n 0), (.n 0), (.n 0), (.n 0), (.n 2)]) (.call 49 [(.n 7), (.v 1), (.v 2), (.v 3), (.v 4), (.v 5)] 5 (.lt (.sel (.not (.cmp .eq (.v 10) (.n 0))) (.n 1) (.n 0)) (.lt (.sel (.not (.cmp .eq (.v 11) (.n 0))) (.n 1) (.n 0)) (.lt (.sel (.not (.cmp .eq (.v 12) (.n 0))) (.n 1) (.n 0)) (.ret [(.v 8), (.v 9), (.v 13), (.v 14), (.v 15), (.n 0)]))))))) (.ret [(.n 0), (.n 0), (.n 0), (.n 0), (.n 0), (.n 2)]))) (.ret [(.n 0), (.n 0), (.n 0), (.n 0), (.n 0), (.n 2)]))
theorem q28x7 : sxRun (Cf [p22, p46, p47, p48, p49, p50, p51] unAll) 200 28 sg28 ((mkS 0 sg28.ins).map (subst [(0, 7)])) [] = t28x7 := by kernel_rfl
def t28x8 : T := (.br (.or (.cmp .eq (.v 1) (.n 1)) (.cmp .eq (.v 1) (.n 2))) (.call 22 [(.v 1), (.v 2), (.v 3)] 1 (.br (.not (.or (.not (.or (.cmp .eq (.v 1) (.n 1)) (.cmp .eq (.v 1) (.n 2)))) (.not (.cmp .eq (.v 6) (.n 0))))) (.call 22 [(.v 1), (.v 4), (.v 5)] 1 (.br (.or (.or (.not (.or (.cmp .eq (.v 1) (.n 1)) (.cmp .eq (.v 1) (.n 2)))) (.not (.cmp .eq (.v 6) (.n 0)))) (.not (.cmp .eq (.v 7) (.n 0)))) (.ret [(.n 0), (.n 0), (.n 0), (.n 0), (.n 0), (.n 2)]) (.call 50 [(.n 8), (.v 1), (.v 2), (.v 3), (.v 4), (.v 5)] 2 (.ret [(.v 8), (.v 9), (.n 1), (.n 0), (.n 0), (.n 0)])))) (.ret [(.n 0), (.n 0), (.n 0), (.n 0), (.n 0), (.n 2)]))) (.ret [(.n 0), (.n 0), (.n 0), (.n 0), (.n 0), (.n 2)]))
theorem q28x8 : sxRun (Cf [p22, p46, p47, p48, p49, p50, p51] unAll) 200 28 sg28 ((mkS 0 sg28.ins).map (subst [(0, 8)])) [] = t28x8 := by kernel_rfl
def t28x9 : T := (.br (.or (.cmp .eq (.v 1) (.n 1)) (.cmp .eq (.v 1) (.n 2))) (.call 22 [(.v 1), (.v 2), (.v 3)] 1 (.br (.not (.or (.not (.or (.cmp .eq (.v 1) (.n 1)) (.cmp .eq (.v 1) (.n 2)))) (.not (.cmp .eq (.v 6) (.n 0))))) (.call 22 [(.v 1), (.v 4), (.v 5)] 1 (.br (.or (.or (.not (.or (.cmp .eq (.v 1) (.n 1)) (.cmp .eq (.v 1) (.n 2)))) (.not (.cmp .eq (.v 6) (.n 0)))) (.not (.cmp .eq (.v 7) (.n 0)))) (.ret [(.n 0), (.n 0), (.n 0), (.n 0), (.n 0), (.n 2)]) (.call 50 [(.n 9), (.v 1), (.v 2), (.v 3), (.v 4), (.v 5)] 2 (.ret [(.v 8), (.v 9), (.n 1), (.n 0), (.n 0), (.n 0)])))) (.ret [(.n 0), (.n 0), (.n 0), (.n 0), (.n 0), (.n 2)]))) (.ret [(.n 0), (.n 0), (.n 0), (.n 0), (.n 0), (.n 2)]))
theorem q28x9 : sxRun (Cf [p22, p46, p47, p48, p49, p50, p51] unAll) 200 28 sg28 ((mkS 0 sg28.ins).map (subst [(0, 9)])) [] = t28x9 := by kernel_rfl
def t28x10 : T := (.br (.or (.cmp .eq (.v 1) (.n 1)) (.cmp .eq (.v 1) (.n 2))) (.call 22 [(.v 1), (.v 2), (.v 3)] 1 (.br (.not (.or (.not (.or (.cmp .eq (.v 1) (.n 1)) (.cmp .eq (.v 1) (.n 2)))) (.not (.cmp .eq (.v 6) (.n 0))))) (.call 22 [(.v 1), (.v 4), (.v 5)] 1 (.br (.or (.or (.not (.or (.cmp .eq (.v 1) (.n 1)) (.cmp .eq (.v 1) (.n 2)))) (.not (.cmp .eq (.v 6) (.n 0)))) (.not (.cmp .eq (.v 7) (.n 0)))) (.ret [(.n 0), (.n 0), (.n 0), (.n 0), (.n 0), (.n 2)]) (.call 50 [(.n 10), (.v 1), (.v 2), (.v 3), (.v 4), (.v 5)] 2 (.ret [(.v 8), (.v 9), (.n 1), (.n 0), (.n 0), (.n 0)])))) (.ret [(.n 0), (.n 0), (.n 0), (.n 0), (.n 0), (.n 2)]))) (.ret [(.n 0), (.n 0), (.n 0), (.n 0), (.n 0), (.n 2)]))
theorem q28x10 : sxRun (Cf [p22, p46, p47, p48, p49, p50, p51] unAll) 200 28 sg28 ((mkS 0 sg28.ins).map (subst [(0, 10)])) [] = t28x10 := by kernel_rfl
def t28x11 : T := (.br (.or (.or (.cmp .eq (.v 1) (.n 1)) (.cmp .eq (.v 1) (.n 2))) (.cmp .eq (.v 1) (.n 3))) (.call 22 [(.v 1), (.v 2), (.v 3)] 1 (.br (.not (.or (.not (.or (.or (.cmp .eq (.v 1) (.n 1)) (.cmp .eq (.v 1) (.n 2))) (.cmp .eq (.v 1) (.n 3)))) (.not (.cmp .eq (.v 6) (.n 0))))) (.call 22 [(.v 1), (.v 4), (.v 5)] 1 (.br (.or (.or (.not (.or (.or (.cmp .eq (.v 1) (.n 1)) (.cmp .eq (.v 1) (.n 2))) (.cmp .eq (.v 1) (.n 3)))) (.not (.cmp .eq (.v 6) (.n 0)))) (.not (.cmp .eq (.v 7) (.n 0)))) (.ret [(.n 0), (.n 0), (.n 0), (.n 0), (.n 0), (.n 2)]) (.call 51 [(.n 11), (.v 2), (.v 3), (.v 4), (.v 5)] 2 (.ret [(.v 8), (.v 9), (.n 1), (.n 0), (.n 0), (.n 0)])))) (.ret [(.n 0), (.n 0), (.n 0), (.n 0), (.n 0), (.n 2)]))) (.ret [(.n 0), (.n 0), (.n 0), (.n 0), (.n 0), (.n 2)]))
theorem q28x11 : sxRun (Cf [p22, p46, p47, p48, p49, p50, p51] unAll) 200 28 sg28 ((mkS 0 sg28.ins).map (subst [(0, 11)])) [] = t28x11 := by kernel_rfl
def t28x12 : T := (.br (.or (.or (.cmp .eq (.v 1) (.n 1)) (.cmp .eq (.v 1) (.n 2))) (.cmp .eq (.v 1) (.n 3))) (.call 22 [(.v 1), (.v 2), (.v 3)] 1 (.br (.not (.or (.not (.or (.or (.cmp .eq (.v 1) (.n 1)) (.cmp .eq (.v 1) (.n 2))) (.cmp .eq (.v 1) (.n 3)))) (.not (.cmp .eq (.v 6) (.n 0))))) (.call 22 [(.v 1), (.v 4), (.v 5)] 1 (.br (.or (.or (.not (.or (.or (.cmp .eq (.v 1) (.n 1)) (.cmp .eq (.v 1) (.n 2))) (.cmp .eq (.v 1) (.n 3)))) (.not (.cmp .eq (.v 6) (.n 0)))) (.not (.cmp .eq (.v 7) (.n 0)))) (.ret [(.n 0), (.n 0), (.n 0), (.n 0), (.n 0), (.n 2)]) (.call 51 [(.n 12), (.v 2), (.v 3), (.v 4), (.v 5)] 2 (.ret [(.v 8), (.v 9), (.n 1), (.n 0), (.n 0), (.n 0)])))) (.ret [(.n 0), (.n 0), (.n 0), (.n 0), (.n 0), (.n 2)]))) (.ret [(.n 0), (.n 0), (.n 0), (.n 0), (.n 0), (.n 2)]))
theorem q28x12 : sxRun (Cf [p22, p46, p47, p48, p49, p50, p51] unAll) 200 28 sg28 ((mkS 0 sg28.ins).map (subst [(0, 12)])) [] = t28x12 := by kernel_rfl
def t28x13 : T := (.br (.or (.cmp .eq (.v 1) (.n 1)) (.cmp .eq (.v 1) (.n 2))) (.call 22 [(.v 1), (.v 2), (.v 3)] 1 (.br (.not (.or (.not (.or (.cmp .eq (.v 1) (.n 1)) (.cmp .eq (.v 1) (.n 2)))) (.not (.cmp .eq (.v 6) (.n 0))))) (.call 22 [(.v 1), (.v 4), (.v 5)] 1 (.br (.or (.or (.not (.or (.cmp .eq (.v 1) (.n 1)) (.cmp .eq (.v 1) (.n 2)))) (.not (.cmp .eq (.v 6) (.n 0)))) (.not (.cmp .eq (.v 7) (.n 0)))) (.ret [(.n 0), (.n 0), (.n 0), (.n 0), (.n 0), (.n 2)]) (.call 51 [(.n 13), (.v 2), (.v 3), (.v 4), (.v 5)] 2 (.ret [(.v 8), (.v 9), (.n 1), (.n 0), (.n 0), (.n 0)])))) (.ret [(.n 0), (.n 0), (.n 0), (.n 0), (.n 0), (.n 2)]))) (.ret [(.n 0), (.n 0), (.n 0), (.n 0), (.n 0), (.n 2)]))
theorem q28x13 : sxRun (Cf [p22, p46, p47, p48, p49, p50, p51] unAll) 200 28 sg28 ((mkS 0 sg28.ins).map (subst [(0, 13)])) [] = t28x13 := by kernel_rfl
def t28x14 : T := (.br (.or (.cmp .eq (.v 1) (.n 1)) (.cmp .eq (.v 1) (.n 2))) (.call 22 [(.v 1), (.v 2), (.v 3)] 1 (.br (.not (.or (.not (.or (.cmp .eq (.v 1) (.n 1)) (.cmp .eq (.v 1) (.n 2)))) (.not (.cmp .eq (.v 6) (.n 0))))) (.call 22 [(.v 1), (.v 4), (.v 5)] 1 (.br (.or (.or (.not (.or (.cmp .eq (.v 1) (.n 1)) (.cmp .eq (.v 1) (.n 2)))) (.not (.cmp .eq (.v 6) (.n 0)))) (.not (.cmp .eq (.v 7) (.n 0)))) (.ret [(.n 0), (.n 0), (.n 0), (.n 0), (.n 0), (.n 2)]) (.call 51 [(.n 14), (.v 2), (.v 3), (.v 4), (.v 5)] 2 (.ret [(.v 8), (.v 9), (.n 1), (.n 0), (.n 0), (.n 0)])))) (.ret [(.n 0), (.n 0), (.n 0), (.n 0), (.n 0), (.n 2)]))) (.ret [(.n 0), (.n 0), (.n 0), (.n 0), (.n 0), (.n 2)]))
theorem q28x14 : sxRun (Cf [p22, p46, p47, p48, p49, p50, p51] unAll) 200 28 sg28 ((mkS 0 sg28.ins).map (subst [(0, 14)])) [] = t28x14 := by kernel_rfl
def t28x15 : T := (.br (.or (.cmp .eq (.v 1) (.n 1)) (.cmp .eq (.v 1) (.n 2))) (.call 22 [(.v 1), (.v 2), (.v 3)] 1 (.br (.not (.or (.not (.or (.cmp .eq (.v 1) (.n 1)) (.cmp .eq (.v 1) (.n 2)))) (.not (.cmp .eq (.v 6) (.n 0))))) (.call 22 [(.v 1), (.v 4), (.v 5)] 1 (.br (.or (.or (.not (.or (.cmp .eq (.v 1) (.n 1)) (.cmp .eq (.v 1) (.n 2)))) (.not (.cmp .eq (.v 6) (.n 0)))) (.not (.cmp .eq (.v 7) (.n 0)))) (.ret [(.n 0), (.n 0), (.n 0), (.n 0), (.n 0), (.n 2)]) (.call 51 [(.n 15), (.v 2), (.v 3), (.v 4), (.v 5)] 2 (.ret [(.v 8), (.v 9), (.n 1), (.n 0), (.n 0), (.n 0)])))) (.ret [(.n 0), (.n 0), (.n 0), (.n 0), (.n 0), (.n 2)]))) (.ret [(.n 0), (.n 0), (.n 0), (.n 0), (.n 0), (.n 2)]))
theorem q28x15 : sxRun (Cf [p22, p46, p47, p48, p49, p50, p51] unAll) 200 28 sg28 ((mkS 0 sg28.ins).map (subst [(0, 15)])) [] = t28x15 := by kernel_rfl
def t28x16 : T := (.br (.or (.cmp .eq (.v 1) (.n 1)) (.cmp .eq (.v 1) (.n 2))) (.call 22 [(.v 1), (.v 2), (.v 3)] 1 (.br (.not (.or (.not (.or (.cmp .eq (.v 1) (.n 1)) (.cmp .eq (.v 1) (.n 2)))) (.not (.cmp .eq (.v 6) (.n 0))))) (.call 22 [(.v 1), (.v 4), (.v 5)] 1 (.br (.or (.or (.not (.or (.cmp .eq (.v 1) (.n 1)) (.cmp .eq (.v 1) (.n 2)))) (.not (.cmp .eq (.v 6) (.n 0)))) (.not (.cmp .eq (.v 7) (.n 0)))) (.ret [(.n 0), (.n 0), (.n 0), (.n 0), (.n 0), (.n 2)]) (.call 51 [(.n 16), (.v 2), (.v 3), (.v 4), (.v 5)] 2 (.ret [(.v 8), (.v 9), (.n 1), (.n 0), (.n 0), (.n 0)])))) (.ret [(.n 0), (.n 0), (.n 0), (.n 0), (.n 0), (.n 2)]))) (.ret [(.n 0), (.n 0), (.n 0), (.n 0), (.n 0), (.n 2)]))
theorem q28x16 : sxRun (Cf [p22, p46, p47, p48, p49, p50, p51] unAll) 200 28 sg28 ((mkS 0 sg28.ins).map (subst [(0, 16)])) [] = t28x16 := by kernel_rfl
def t28x17 : T := (.br (.cmp .eq (.v 1) (.n 3)) (.call 22 [(.v 1), (.v 2), (.v 3)] 1 (.br (.not (.or (.not (.cmp .eq (.v 1) (.n 3))) (.not (.cmp .eq (.v 6) (.n 0))))) (.call 22 [(.v 1), (.v 4), (.v 5)] 1 (.br (.or (.or (.not (.cmp .eq (.v 1) (.n 3))) (.not (.cmp .eq (.v 6) (.n 0)))) (.not (.cmp .eq (.v 7) (.n 0)))) (.ret [(.n 0), (.n 0), (.n 0), (.n 0), (.n 0), (.n 2)]) (.lt (.mul .i64 (.v 2) (.v 4)) (.lt (.mul .i64 (.v 3) (.v 5)) (.ret [(.v 8), (.v 9), (.n 1), (.n 0), (.n 0), (.n 0)]))))) (.ret [(.n 0), (.n 0), (.n 0), (.n 0), (.n 0), (.n 2)]))) (.ret [(.n 0), (.n 0), (.n 0), (.n 0), (.n 0), (.n 2)]))
theorem q28x17 : sxRun (Cf [p22, p46, p47, p48, p49, p50, p51] unAll) 200 28 sg28 ((mkS 0 sg28.ins).map (subst [(0, 17)])) [] = t28x17 := by kernel_rfl
def t28x18 : T := (.br (.cmp .eq (.v 1) (.n 3)) (.call 22 [(.v 1), (.v 2), (.v 3)] 1 (.br (.not (.or (.not (.cmp .eq (.v 1) (.n 3))) (.not (.cmp .eq (.v 6) (.n 0))))) (.call 22 [(.v 1), (.v 4), (.v 5)] 1 (.br (.or (.or (.not (.cmp .eq (.v 1) (.n 3))) (.not (.cmp .eq (.v 6) (.n 0)))) (.not (.cmp .eq (.v 7) (.n 0)))) (.ret [(.n 0), (.n 0), (.n 0), (.n 0), (.n 0), (.n 2)]) (.lt (.mx (.v 2) (.v 4)) (.lt (.mx (.v 3) (.v 5)) (.ret [(.v 8), (.v 9), (.n 1), (.n 0), (.n 0), (.n 0)]))))) (.ret [(.n 0), (.n 0), (.n 0), (.n 0), (.n 0), (.n 2)]))) (.ret [(.n 0), (.n 0), (.n 0), (.n 0), (.n 0), (.n 2)]))
theorem q28x18 : sxRun (Cf [p22, p46, p47, p48, p49, p50, p51] unAll) 200 28 sg28 ((mkS 0 sg28.ins).map (subst [(0, 18)])) [] = t28x18 := by kernel_rfl
def t28y : T := (.br (.or (.and (.not (.cmp .lt (.v 0) (.n 1))) (.not (.cmp .lt (.n 10) (.v 0)))) (.and (.not (.cmp .lt (.v 0) (.n 13))) (.not (.cmp .lt (.n 16) (.v 0))))) (.br (.or (.cmp .eq (.v 1) (.n 1)) (.cmp .eq (.v 1) (.n 2))) (.call 22 [(.v 1), (.v 2), (.v 3)] 1 (.br (.not (.or (.not (.or (.cmp .eq (.v 1) (.n 1)) (.cmp .eq (.v 1) (.n 2)))) (.not (.cmp .eq (.v 6) (.n 0))))) (.call 22 [(.v 1), (.v 4), (.v 5)] 1 (.br (.or (.or (.not (.or (.cmp .eq (.v 1) (.n 1)) (.cmp .eq (.v 1) (.n 2)))) (.not (.cmp .eq (.v 6) (.n 0)))) (.not (.cmp .eq (.v 7) (.n 0)))) (.ret [(.n 0), (.n 0), (.n 0), (.n 0), (.n 0), (.n 2)]) (.call 51 [(.v 0), (.v 2), (.v 3), (.v 4), (.v 5)] 2 (.ret [(.v 8), (.v 9), (.n 1), (.n 0), (.n 0), (.n 0)])))) (.ret [(.n 0), (.n 0), (.n 0), (.n 0), (.n 0), (.n 2)]))) (.ret [(.n 0), (.n 0), (.n 0), (.n 0), (.n 0), (.n 2)])) (.ret [(.n 0), (.n 0), (.n 0), (.n 0), (.n 0), (.n 2)]))
theorem q28y : sxRun (Cf [p22, p46, p47, p48, p49, p50, p51] unAll) 200 28 sg28 ((mkS 0 sg28.ins).map (subst [])) [((.cmp .eq (.v 0) (.n 1)), false), ((.cmp .eq (.v 0) (.n 2)), false), ((.cmp .eq (.v 0) (.n 3)), false), ((.cmp .eq (.v 0) (.n 4)), false), ((.cmp .eq (.v 0) (.n 5)), false), ((.cmp .eq (.v 0) (.n 6)), false), ((.cmp .eq (.v 0) (.n 7)), false), ((.cmp .eq (.v 0) (.n 8)), false), ((.cmp .eq (.v 0) (.n 9)), false), ((.cmp .eq (.v 0) (.n 10)), false), ((.cmp .eq (.v 0) (.n 11)), false), ((.cmp .eq (.v 0) (.n 12)), false), ((.cmp .eq (.v 0) (.n 13)), false), ((.cmp .eq (.v 0) (.n 14)), false), ((.cmp .eq (.v 0) (.n 15)), false), ((.cmp .eq (.v 0) (.n 16)), false), ((.cmp .eq (.v 0) (.n 17)), false), ((.cmp .eq (.v 0) (.n 18)), false)] = t28y := by kernel_rfl
theorem c28x1 {F : Nat → List Int → Option (List Int)} {k a b c d : Int} (g22 : F 22 = checkS) (g46 : F 46 = broughtS) (g47 : F 47 = cornersS) (g48 : F 48 = dividedS) (g49 : F 49 = movedS) (g50 : F 50 = bitsS) (g51 : F 51 = comparedS) (hr : in4 a b c d) : t28x1.den F 0 [1, k, a, b, c, d] = some (0, binR 1 k a b c d) := by
  obtain ⟨ha, hb, hc, hd⟩ := hr
  have f1 : F 22 [k, a, b] = some [checkE k a b] := by rw [g22]; exact if_pos ⟨ha, hb⟩
  have f2 : F 22 [k, c, d] = some [checkE k c d] := by rw [g22]; exact if_pos ⟨hc, hd⟩
  by_cases hk : (k = 1 ∨ k = 2)
  · have hk' : ((k = 1 ∨ k = 2)) = True := eq_true hk
    have hf : fitsB 1 k := by unfold fitsB; omega
    by_cases o1 : okR k a b
    · have c1 : checkE k a b = 0 := if_pos o1
      by_cases o2 : okR k c d
      · have c2 : checkE k c d = 0 := if_pos o2
        have hab := o1.2
        have hcd := o2.2
        rw [binR_ok ⟨hf, o1, o2⟩]
        rw [c1] at f1
        rw [c2] at f2
        have e9 : effS 1 k a b c d = br k (q4 (· * ·) a b c d).1 (q4 (· * ·) a b c d).2 ++ [1, 0, 0] := rfl
        rw [e9]
        have hcor : corOk 1 a b c d := ⟨⟨ha, hb, hc, hd⟩, by omega⟩
        obtain ⟨lo, hi, ov, e1, e2, e3⟩ := brought_cor (k := k) (f := (· * ·)) (a := a) (b := b) (c := c) (d := d) hk
        have e4 : F 47 [1, a, b, c, d] = some [lo, hi, ov] := by rw [g47, ← e1]; exact if_pos hcor
        have e5 : (if ov = 0 then (0 : Int) else 1) = ov := by rcases e2 with rfl | rfl <;> rfl
        rw [← g46] at e3
        have e6 : br k (lo4 (a * c) (a * d) (b * c) (b * d)) (hi4 (a * c) (a * d) (b * c) (b * d)) = br k (q4 (· * ·) a b c d).1 (q4 (· * ·) a b c d).2 := rfl
        rw [e6] at e3
        unfold br at e3 ⊢
        simp [t28x1, T.den, B.den, A.den, E.den, Cm.den, f1, f2, hk', e4, e5, e3] <;> omega
      · have c2 : checkE k c d = 2 := if_neg o2
        rw [binR_no (fun h => o2 h.2.2)]
        rw [c1] at f1
        rw [c2] at f2
        simp [t28x1, T.den, B.den, A.den, E.den, Cm.den, f1, f2, hk'] <;> omega
    · have c1 : checkE k a b = 2 := if_neg o1
      rw [binR_no (fun h => o1 h.2.1)]
      rw [c1] at f1
      simp [t28x1, T.den, B.den, A.den, E.den, Cm.den, f1, hk']
  · have hk' : ((k = 1 ∨ k = 2)) = False := eq_false hk
    rw [binR_no (fun h => by have := h.1; unfold fitsB at this; omega)]
    simp [t28x1, T.den, B.den, A.den, E.den, Cm.den, hk']
theorem c28x2 {F : Nat → List Int → Option (List Int)} {k a b c d : Int} (g22 : F 22 = checkS) (g46 : F 46 = broughtS) (g47 : F 47 = cornersS) (g48 : F 48 = dividedS) (g49 : F 49 = movedS) (g50 : F 50 = bitsS) (g51 : F 51 = comparedS) (hr : in4 a b c d) : t28x2.den F 0 [2, k, a, b, c, d] = some (0, binR 2 k a b c d) := by
  obtain ⟨ha, hb, hc, hd⟩ := hr
  have f1 : F 22 [k, a, b] = some [checkE k a b] := by rw [g22]; exact if_pos ⟨ha, hb⟩
  have f2 : F 22 [k, c, d] = some [checkE k c d] := by rw [g22]; exact if_pos ⟨hc, hd⟩
  by_cases hk : (k = 1 ∨ k = 2)
  · have hk' : ((k = 1 ∨ k = 2)) = True := eq_true hk
    have hf : fitsB 2 k := by unfold fitsB; omega
    by_cases o1 : okR k a b
    · have c1 : checkE k a b = 0 := if_pos o1
      by_cases o2 : okR k c d
      · have c2 : checkE k c d = 0 := if_pos o2
        have hab := o1.2
        have hcd := o2.2
        rw [binR_ok ⟨hf, o1, o2⟩]
        rw [c1] at f1
        rw [c2] at f2
        have e1 : F 48 [2, k, a, b, c, d] = some (quotR k a b c d) := by
          rw [g48]
          exact if_pos ⟨by omega, hk.elim .inl (fun q => .inr ⟨q, by unfold okR at o1; omega⟩), ⟨ha, hb, hc, hd⟩, hab, hcd⟩
        have e9 : effS 2 k a b c d = quotR k a b c d := rfl
        rw [e9]
        have e3 : quotR k a b c d = [extLo Int.tdiv (DivS a b c d), extHi Int.tdiv (DivS a b c d), if someD b c d then 1 else 0, trapV c d, undV k a b c d] := rfl
        rw [e3] at e1 ⊢
        have q1 : (if (if someD b c d then (1 : Int) else 0) = 0 then (0 : Int) else 1) = if someD b c d then 1 else 0 := by by_cases hp : someD b c d <;> simp [hp]
        have q2 : (if undV k a b c d = 0 then (0 : Int) else 1) = undV k a b c d := by unfold undV; split <;> rfl
        by_cases hs : someD b c d
        · simp only [hs, if_true] at e1 ⊢
          simp [t28x2, T.den, B.den, A.den, E.den, Cm.den, f1, f2, hk', e1, sel_t, q2] <;> omega
        · simp only [hs, if_false] at e1 ⊢
          simp [t28x2, T.den, B.den, A.den, E.den, Cm.den, f1, f2, hk', e1, sel_t, q2] <;> omega
      · have c2 : checkE k c d = 2 := if_neg o2
        rw [binR_no (fun h => o2 h.2.2)]
        rw [c1] at f1
        rw [c2] at f2
        simp [t28x2, T.den, B.den, A.den, E.den, Cm.den, f1, f2, hk'] <;> omega
    · have c1 : checkE k a b = 2 := if_neg o1
      rw [binR_no (fun h => o1 h.2.1)]
      rw [c1] at f1
      simp [t28x2, T.den, B.den, A.den, E.den, Cm.den, f1, hk']
  · have hk' : ((k = 1 ∨ k = 2)) = False := eq_false hk
    rw [binR_no (fun h => by have := h.1; unfold fitsB at this; omega)]
    simp [t28x2, T.den, B.den, A.den, E.den, Cm.den, hk']
theorem c28x3 {F : Nat → List Int → Option (List Int)} {k a b c d : Int} (g22 : F 22 = checkS) (g46 : F 46 = broughtS) (g47 : F 47 = cornersS) (g48 : F 48 = dividedS) (g49 : F 49 = movedS) (g50 : F 50 = bitsS) (g51 : F 51 = comparedS) (hr : in4 a b c d) : t28x3.den F 0 [3, k, a, b, c, d] = some (0, binR 3 k a b c d) := by
  obtain ⟨ha, hb, hc, hd⟩ := hr
  have f1 : F 22 [k, a, b] = some [checkE k a b] := by rw [g22]; exact if_pos ⟨ha, hb⟩
  have f2 : F 22 [k, c, d] = some [checkE k c d] := by rw [g22]; exact if_pos ⟨hc, hd⟩
  by_cases hk : (k = 1 ∨ k = 2)
  · have hk' : ((k = 1 ∨ k = 2)) = True := eq_true hk
    have hf : fitsB 3 k := by unfold fitsB; omega
    by_cases o1 : okR k a b
    · have c1 : checkE k a b = 0 := if_pos o1
      by_cases o2 : okR k c d
      · have c2 : checkE k c d = 0 := if_pos o2
        have hab := o1.2
        have hcd := o2.2
        rw [binR_ok ⟨hf, o1, o2⟩]
        rw [c1] at f1
        rw [c2] at f2
        have e1 : F 48 [3, k, a, b, c, d] = some (remR k a b c d) := by
          rw [g48]
          exact if_pos ⟨by omega, hk.elim .inl (fun q => .inr ⟨q, by unfold okR at o1; omega⟩), ⟨ha, hb, hc, hd⟩, hab, hcd⟩
        have e9 : effS 3 k a b c d = remR k a b c d := rfl
        rw [e9]
        unfold remR at e1 ⊢
        have q2 : (if undV k a b c d = 0 then (0 : Int) else 1) = undV k a b c d := by unfold undV; split <;> rfl
        by_cases hs : someD b c d
        · rw [if_pos hs] at e1 ⊢
          simp [t28x3, T.den, B.den, A.den, E.den, Cm.den, f1, f2, hk', e1, sel_t, q2] <;> omega
        · rw [if_neg hs] at e1 ⊢
          simp [t28x3, T.den, B.den, A.den, E.den, Cm.den, f1, f2, hk', e1, sel_t, q2] <;> omega
      · have c2 : checkE k c d = 2 := if_neg o2
        rw [binR_no (fun h => o2 h.2.2)]
        rw [c1] at f1
        rw [c2] at f2
        simp [t28x3, T.den, B.den, A.den, E.den, Cm.den, f1, f2, hk'] <;> omega
    · have c1 : checkE k a b = 2 := if_neg o1
      rw [binR_no (fun h => o1 h.2.1)]
      rw [c1] at f1
      simp [t28x3, T.den, B.den, A.den, E.den, Cm.den, f1, hk']
  · have hk' : ((k = 1 ∨ k = 2)) = False := eq_false hk
    rw [binR_no (fun h => by have := h.1; unfold fitsB at this; omega)]
    simp [t28x3, T.den, B.den, A.den, E.den, Cm.den, hk']
theorem c28x4 {F : Nat → List Int → Option (List Int)} {k a b c d : Int} (g22 : F 22 = checkS) (g46 : F 46 = broughtS) (g47 : F 47 = cornersS) (g48 : F 48 = dividedS) (g49 : F 49 = movedS) (g50 : F 50 = bitsS) (g51 : F 51 = comparedS) (hr : in4 a b c d) : t28x4.den F 0 [4, k, a, b, c, d] = some (0, binR 4 k a b c d) := by
  obtain ⟨ha, hb, hc, hd⟩ := hr
  have f1 : F 22 [k, a, b] = some [checkE k a b] := by rw [g22]; exact if_pos ⟨ha, hb⟩
  have f2 : F 22 [k, c, d] = some [checkE k c d] := by rw [g22]; exact if_pos ⟨hc, hd⟩
  by_cases hk : (k = 1 ∨ k = 2)
  · have hk' : ((k = 1 ∨ k = 2)) = True := eq_true hk
    have hf : fitsB 4 k := by unfold fitsB; omega
    by_cases o1 : okR k a b
    · have c1 : checkE k a b = 0 := if_pos o1
      by_cases o2 : okR k c d
      · have c2 : checkE k c d = 0 := if_pos o2
        have hab := o1.2
        have hcd := o2.2
        rw [binR_ok ⟨hf, o1, o2⟩]
        rw [c1] at f1
        rw [c2] at f2
        have e9 : effS 4 k a b c d = br k (a + c) (b + d) ++ [1, 0, 0] := rfl
        rw [e9]
        have hcor : corOk 4 a b c d := ⟨⟨ha, hb, hc, hd⟩, by omega⟩
        obtain ⟨lo, hi, ov, e1, e2, e3⟩ := brought_cor (k := k) (f := (· + ·)) (a := a) (b := b) (c := c) (d := d) hk
        have e4 : F 47 [4, a, b, c, d] = some [lo, hi, ov] := by rw [g47, ← e1]; exact if_pos hcor
        have e5 : (if ov = 0 then (0 : Int) else 1) = ov := by rcases e2 with rfl | rfl <;> rfl
        rw [← g46] at e3
        rw [show lo4 (a + c) (a + d) (b + c) (b + d) = a + c by unfold lo4; omega, show hi4 (a + c) (a + d) (b + c) (b + d) = b + d by unfold hi4; omega] at e3
        unfold br at e3 ⊢
        simp [t28x4, T.den, B.den, A.den, E.den, Cm.den, f1, f2, hk', e4, e5, e3] <;> omega
      · have c2 : checkE k c d = 2 := if_neg o2
        rw [binR_no (fun h => o2 h.2.2)]
        rw [c1] at f1
        rw [c2] at f2
        simp [t28x4, T.den, B.den, A.den, E.den, Cm.den, f1, f2, hk'] <;> omega
    · have c1 : checkE k a b = 2 := if_neg o1
      rw [binR_no (fun h => o1 h.2.1)]
      rw [c1] at f1
      simp [t28x4, T.den, B.den, A.den, E.den, Cm.den, f1, hk']
  · have hk' : ((k = 1 ∨ k = 2)) = False := eq_false hk
    rw [binR_no (fun h => by have := h.1; unfold fitsB at this; omega)]
    simp [t28x4, T.den, B.den, A.den, E.den, Cm.den, hk']
theorem c28x5 {F : Nat → List Int → Option (List Int)} {k a b c d : Int} (g22 : F 22 = checkS) (g46 : F 46 = broughtS) (g47 : F 47 = cornersS) (g48 : F 48 = dividedS) (g49 : F 49 = movedS) (g50 : F 50 = bitsS) (g51 : F 51 = comparedS) (hr : in4 a b c d) : t28x5.den F 0 [5, k, a, b, c, d] = some (0, binR 5 k a b c d) := by
  obtain ⟨ha, hb, hc, hd⟩ := hr
  have f1 : F 22 [k, a, b] = some [checkE k a b] := by rw [g22]; exact if_pos ⟨ha, hb⟩
  have f2 : F 22 [k, c, d] = some [checkE k c d] := by rw [g22]; exact if_pos ⟨hc, hd⟩
  by_cases hk : (k = 1 ∨ k = 2)
  · have hk' : ((k = 1 ∨ k = 2)) = True := eq_true hk
    have hf : fitsB 5 k := by unfold fitsB; omega
    by_cases o1 : okR k a b
    · have c1 : checkE k a b = 0 := if_pos o1
      by_cases o2 : okR k c d
      · have c2 : checkE k c d = 0 := if_pos o2
        have hab := o1.2
        have hcd := o2.2
        rw [binR_ok ⟨hf, o1, o2⟩]
        rw [c1] at f1
        rw [c2] at f2
        have e9 : effS 5 k a b c d = br k (a - d) (b - c) ++ [1, 0, 0] := rfl
        rw [e9]
        have hcor : corOk 5 a b c d := ⟨⟨ha, hb, hc, hd⟩, by omega⟩
        obtain ⟨lo, hi, ov, e1, e2, e3⟩ := brought_cor (k := k) (f := (· - ·)) (a := a) (b := b) (c := c) (d := d) hk
        have e4 : F 47 [5, a, b, c, d] = some [lo, hi, ov] := by rw [g47, ← e1]; exact if_pos hcor
        have e5 : (if ov = 0 then (0 : Int) else 1) = ov := by rcases e2 with rfl | rfl <;> rfl
        rw [← g46] at e3
        rw [show lo4 (a - c) (a - d) (b - c) (b - d) = a - d by unfold lo4; omega, show hi4 (a - c) (a - d) (b - c) (b - d) = b - c by unfold hi4; omega] at e3
        unfold br at e3 ⊢
        simp [t28x5, T.den, B.den, A.den, E.den, Cm.den, f1, f2, hk', e4, e5, e3] <;> omega
      · have c2 : checkE k c d = 2 := if_neg o2
        rw [binR_no (fun h => o2 h.2.2)]
        rw [c1] at f1
        rw [c2] at f2
        simp [t28x5, T.den, B.den, A.den, E.den, Cm.den, f1, f2, hk'] <;> omega
    · have c1 : checkE k a b = 2 := if_neg o1
      rw [binR_no (fun h => o1 h.2.1)]
      rw [c1] at f1
      simp [t28x5, T.den, B.den, A.den, E.den, Cm.den, f1, hk']
  · have hk' : ((k = 1 ∨ k = 2)) = False := eq_false hk
    rw [binR_no (fun h => by have := h.1; unfold fitsB at this; omega)]
    simp [t28x5, T.den, B.den, A.den, E.den, Cm.den, hk']
theorem c28x6 {F : Nat → List Int → Option (List Int)} {k a b c d : Int} (g22 : F 22 = checkS) (g46 : F 46 = broughtS) (g47 : F 47 = cornersS) (g48 : F 48 = dividedS) (g49 : F 49 = movedS) (g50 : F 50 = bitsS) (g51 : F 51 = comparedS) (hr : in4 a b c d) : t28x6.den F 0 [6, k, a, b, c, d] = some (0, binR 6 k a b c d) := by
  obtain ⟨ha, hb, hc, hd⟩ := hr
  have f1 : F 22 [k, a, b] = some [checkE k a b] := by rw [g22]; exact if_pos ⟨ha, hb⟩
  have f2 : F 22 [k, c, d] = some [checkE k c d] := by rw [g22]; exact if_pos ⟨hc, hd⟩
  by_cases hk : (k = 1 ∨ k = 2)
  · have hk' : ((k = 1 ∨ k = 2)) = True := eq_true hk
    have hf : fitsB 6 k := by unfold fitsB; omega
    by_cases o1 : okR k a b
    · have c1 : checkE k a b = 0 := if_pos o1
      by_cases o2 : okR k c d
      · have c2 : checkE k c d = 0 := if_pos o2
        have hab := o1.2
        have hcd := o2.2
        rw [binR_ok ⟨hf, o1, o2⟩]
        rw [c1] at f1
        rw [c2] at f2
        have e1 : F 49 [6, k, a, b, c, d] = some (movedR 6 k a b c d) := by rw [g49]; exact if_pos ⟨by omega, hk, ⟨ha, hb, hc, hd⟩, hcd⟩
        have q1 : (if shU k c d = 0 then (0 : Int) else 1) = shU k c d := by unfold shU; split <;> rfl
        have ht : 0 ≤ topK k := by unfold topK; split <;> omega
        have e9 : effS 6 k a b c d = movedR 6 k a b c d := rfl
        rw [e9]
        unfold movedR at e1 ⊢
        by_cases hs : shSome k c d
        · rw [if_pos hs] at e1 ⊢
          unfold br at e1 ⊢
          simp [t28x6, T.den, B.den, A.den, E.den, Cm.den, f1, f2, hk', e1, q1] <;> omega
        · rw [if_neg hs] at e1 ⊢
          simp [t28x6, T.den, B.den, A.den, E.den, Cm.den, f1, f2, hk', e1, q1] <;> omega
      · have c2 : checkE k c d = 2 := if_neg o2
        rw [binR_no (fun h => o2 h.2.2)]
        rw [c1] at f1
        rw [c2] at f2
        simp [t28x6, T.den, B.den, A.den, E.den, Cm.den, f1, f2, hk'] <;> omega
    · have c1 : checkE k a b = 2 := if_neg o1
      rw [binR_no (fun h => o1 h.2.1)]
      rw [c1] at f1
      simp [t28x6, T.den, B.den, A.den, E.den, Cm.den, f1, hk']
  · have hk' : ((k = 1 ∨ k = 2)) = False := eq_false hk
    rw [binR_no (fun h => by have := h.1; unfold fitsB at this; omega)]
    simp [t28x6, T.den, B.den, A.den, E.den, Cm.den, hk']
theorem c28x7 {F : Nat → List Int → Option (List Int)} {k a b c d : Int} (g22 : F 22 = checkS) (g46 : F 46 = broughtS) (g47 : F 47 = cornersS) (g48 : F 48 = dividedS) (g49 : F 49 = movedS) (g50 : F 50 = bitsS) (g51 : F 51 = comparedS) (hr : in4 a b c d) : t28x7.den F 0 [7, k, a, b, c, d] = some (0, binR 7 k a b c d) := by
  obtain ⟨ha, hb, hc, hd⟩ := hr
  have f1 : F 22 [k, a, b] = some [checkE k a b] := by rw [g22]; exact if_pos ⟨ha, hb⟩
  have f2 : F 22 [k, c, d] = some [checkE k c d] := by rw [g22]; exact if_pos ⟨hc, hd⟩
  by_cases hk : (k = 1 ∨ k = 2)
  · have hk' : ((k = 1 ∨ k = 2)) = True := eq_true hk
    have hf : fitsB 7 k := by unfold fitsB; omega
    by_cases o1 : okR k a b
    · have c1 : checkE k a b = 0 := if_pos o1
      by_cases o2 : okR k c d
      · have c2 : checkE k c d = 0 := if_pos o2
        have hab := o1.2
        have hcd := o2.2
        rw [binR_ok ⟨hf, o1, o2⟩]
        rw [c1] at f1
        rw [c2] at f2
        have e1 : F 49 [7, k, a, b, c, d] = some (movedR 7 k a b c d) := by rw [g49]; exact if_pos ⟨by omega, hk, ⟨ha, hb, hc, hd⟩, hcd⟩
        have q1 : (if shU k c d = 0 then (0 : Int) else 1) = shU k c d := by unfold shU; split <;> rfl
        have ht : 0 ≤ topK k := by unfold topK; split <;> omega
        have e9 : effS 7 k a b c d = (if shSome k c d then [(q4 shrF a b (max c 0) (min d (topK k))).1, (q4 shrF a b (max c 0) (min d (topK k))).2, 1, 0, shU k c d] else [0, 0, 0, 0, shU k c d]) := rfl
        rw [e9]
        unfold movedR at e1
        by_cases hs : shSome k c d
        · have e2 : br k (q4 (opF 7) a b (max c 0) (min d (topK k))).1 (q4 (opF 7) a b (max c 0) (min d (topK k))).2 = _ := br_shr hk ha hb o1 hab (c := max c 0) (d := min d (topK k)) (by omega) hs
          rw [if_pos hs, e2] at e1
          rw [if_pos hs]
          simp [t28x7, T.den, B.den, A.den, E.den, Cm.den, f1, f2, hk', e1, q1] <;> omega
        · rw [if_neg hs] at e1 ⊢
          simp [t28x7, T.den, B.den, A.den, E.den, Cm.den, f1, f2, hk', e1, q1] <;> omega
      · have c2 : checkE k c d = 2 := if_neg o2
        rw [binR_no (fun h => o2 h.2.2)]
        rw [c1] at f1
        rw [c2] at f2
        simp [t28x7, T.den, B.den, A.den, E.den, Cm.den, f1, f2, hk'] <;> omega
    · have c1 : checkE k a b = 2 := if_neg o1
      rw [binR_no (fun h => o1 h.2.1)]
      rw [c1] at f1
      simp [t28x7, T.den, B.den, A.den, E.den, Cm.den, f1, hk']
  · have hk' : ((k = 1 ∨ k = 2)) = False := eq_false hk
    rw [binR_no (fun h => by have := h.1; unfold fitsB at this; omega)]
    simp [t28x7, T.den, B.den, A.den, E.den, Cm.den, hk']
theorem c28x8 {F : Nat → List Int → Option (List Int)} {k a b c d : Int} (g22 : F 22 = checkS) (g46 : F 46 = broughtS) (g47 : F 47 = cornersS) (g48 : F 48 = dividedS) (g49 : F 49 = movedS) (g50 : F 50 = bitsS) (g51 : F 51 = comparedS) (hr : in4 a b c d) : t28x8.den F 0 [8, k, a, b, c, d] = some (0, binR 8 k a b c d) := by
  obtain ⟨ha, hb, hc, hd⟩ := hr
  have f1 : F 22 [k, a, b] = some [checkE k a b] := by rw [g22]; exact if_pos ⟨ha, hb⟩
  have f2 : F 22 [k, c, d] = some [checkE k c d] := by rw [g22]; exact if_pos ⟨hc, hd⟩
  by_cases hk : (k = 1 ∨ k = 2)
  · have hk' : ((k = 1 ∨ k = 2)) = True := eq_true hk
    have hf : fitsB 8 k := by unfold fitsB; omega
    by_cases o1 : okR k a b
    · have c1 : checkE k a b = 0 := if_pos o1
      by_cases o2 : okR k c d
      · have c2 : checkE k c d = 0 := if_pos o2
        have hab := o1.2
        have hcd := o2.2
        rw [binR_ok ⟨hf, o1, o2⟩]
        rw [c1] at f1
        rw [c2] at f2
        have e1 : F 50 [8, k, a, b, c, d] = some (andR k a b c d) := by rw [g50]; exact if_pos ⟨by omega, hk, ⟨ha, hb, hc, hd⟩, hab, hcd⟩
        have e9 : effS 8 k a b c d = andR k a b c d ++ [1, 0, 0] := rfl
        rw [e9]
        obtain ⟨x, y, hxy⟩ : ∃ x y, andR k a b c d = [x, y] := by unfold andR; (repeat' split) <;> exact ⟨_, _, rfl⟩
        rw [hxy] at e1 ⊢
        simp [t28x8, T.den, B.den, A.den, E.den, Cm.den, f1, f2, hk', e1] <;> omega
      · have c2 : checkE k c d = 2 := if_neg o2
        rw [binR_no (fun h => o2 h.2.2)]
        rw [c1] at f1
        rw [c2] at f2
        simp [t28x8, T.den, B.den, A.den, E.den, Cm.den, f1, f2, hk'] <;> omega
    · have c1 : checkE k a b = 2 := if_neg o1
      rw [binR_no (fun h => o1 h.2.1)]
      rw [c1] at f1
      simp [t28x8, T.den, B.den, A.den, E.den, Cm.den, f1, hk']
  · have hk' : ((k = 1 ∨ k = 2)) = False := eq_false hk
    rw [binR_no (fun h => by have := h.1; unfold fitsB at this; omega)]
    simp [t28x8, T.den, B.den, A.den, E.den, Cm.den, hk']
theorem c28x9 {F : Nat → List Int → Option (List Int)} {k a b c d : Int} (g22 : F 22 = checkS) (g46 : F 46 = broughtS) (g47 : F 47 = cornersS) (g48 : F 48 = dividedS) (g49 : F 49 = movedS) (g50 : F 50 = bitsS) (g51 : F 51 = comparedS) (hr : in4 a b c d) : t28x9.den F 0 [9, k, a, b, c, d] = some (0, binR 9 k a b c d) := by
  obtain ⟨ha, hb, hc, hd⟩ := hr
  have f1 : F 22 [k, a, b] = some [checkE k a b] := by rw [g22]; exact if_pos ⟨ha, hb⟩
  have f2 : F 22 [k, c, d] = some [checkE k c d] := by rw [g22]; exact if_pos ⟨hc, hd⟩
  by_cases hk : (k = 1 ∨ k = 2)
  · have hk' : ((k = 1 ∨ k = 2)) = True := eq_true hk
    have hf : fitsB 9 k := by unfold fitsB; omega
    by_cases o1 : okR k a b
    · have c1 : checkE k a b = 0 := if_pos o1
      by_cases o2 : okR k c d
      · have c2 : checkE k c d = 0 := if_pos o2
        have hab := o1.2
        have hcd := o2.2
        rw [binR_ok ⟨hf, o1, o2⟩]
        rw [c1] at f1
        rw [c2] at f2
        have e1 : F 50 [9, k, a, b, c, d] = some (xorR k a b c d) := by rw [g50]; exact if_pos ⟨by omega, hk, ⟨ha, hb, hc, hd⟩, hab, hcd⟩
        have e9 : effS 9 k a b c d = xorR k a b c d ++ [1, 0, 0] := rfl
        rw [e9]
        obtain ⟨x, y, hxy⟩ : ∃ x y, xorR k a b c d = [x, y] := by unfold xorR; (repeat' split) <;> exact ⟨_, _, rfl⟩
        rw [hxy] at e1 ⊢
        simp [t28x9, T.den, B.den, A.den, E.den, Cm.den, f1, f2, hk', e1] <;> omega
      · have c2 : checkE k c d = 2 := if_neg o2
        rw [binR_no (fun h => o2 h.2.2)]
        rw [c1] at f1
        rw [c2] at f2
        simp [t28x9, T.den, B.den, A.den, E.den, Cm.den, f1, f2, hk'] <;> omega
    · have c1 : checkE k a b = 2 := if_neg o1
      rw [binR_no (fun h => o1 h.2.1)]
      rw [c1] at f1
      simp [t28x9, T.den, B.den, A.den, E.den, Cm.den, f1, hk']
  · have hk' : ((k = 1 ∨ k = 2)) = False := eq_false hk
    rw [binR_no (fun h => by have := h.1; unfold fitsB at this; omega)]
    simp [t28x9, T.den, B.den, A.den, E.den, Cm.den, hk']
theorem c28x10 {F : Nat → List Int → Option (List Int)} {k a b c d : Int} (g22 : F 22 = checkS) (g46 : F 46 = broughtS) (g47 : F 47 = cornersS) (g48 : F 48 = dividedS) (g49 : F 49 = movedS) (g50 : F 50 = bitsS) (g51 : F 51 = comparedS) (hr : in4 a b c d) : t28x10.den F 0 [10, k, a, b, c, d] = some (0, binR 10 k a b c d) := by
  obtain ⟨ha, hb, hc, hd⟩ := hr
  have f1 : F 22 [k, a, b] = some [checkE k a b] := by rw [g22]; exact if_pos ⟨ha, hb⟩
  have f2 : F 22 [k, c, d] = some [checkE k c d] := by rw [g22]; exact if_pos ⟨hc, hd⟩
  by_cases hk : (k = 1 ∨ k = 2)
  · have hk' : ((k = 1 ∨ k = 2)) = True := eq_true hk
    have hf : fitsB 10 k := by unfold fitsB; omega
    by_cases o1 : okR k a b
    · have c1 : checkE k a b = 0 := if_pos o1
      by_cases o2 : okR k c d
      · have c2 : checkE k c d = 0 := if_pos o2
        have hab := o1.2
        have hcd := o2.2
        rw [binR_ok ⟨hf, o1, o2⟩]
        rw [c1] at f1
        rw [c2] at f2
        have e1 : F 50 [10, k, a, b, c, d] = some (orR k a b c d) := by rw [g50]; exact if_pos ⟨by omega, hk, ⟨ha, hb, hc, hd⟩, hab, hcd⟩
        have e9 : effS 10 k a b c d = orR k a b c d ++ [1, 0, 0] := rfl
        rw [e9]
        obtain ⟨x, y, hxy⟩ : ∃ x y, orR k a b c d = [x, y] := by unfold orR; (repeat' split) <;> exact ⟨_, _, rfl⟩
        rw [hxy] at e1 ⊢
        simp [t28x10, T.den, B.den, A.den, E.den, Cm.den, f1, f2, hk', e1] <;> omega
      · have c2 : checkE k c d = 2 := if_neg o2
        rw [binR_no (fun h => o2 h.2.2)]
        rw [c1] at f1
        rw [c2] at f2
        simp [t28x10, T.den, B.den, A.den, E.den, Cm.den, f1, f2, hk'] <;> omega
    · have c1 : checkE k a b = 2 := if_neg o1
      rw [binR_no (fun h => o1 h.2.1)]
      rw [c1] at f1
      simp [t28x10, T.den, B.den, A.den, E.den, Cm.den, f1, hk']
  · have hk' : ((k = 1 ∨ k = 2)) = False := eq_false hk
    rw [binR_no (fun h => by have := h.1; unfold fitsB at this; omega)]
    simp [t28x10, T.den, B.den, A.den, E.den, Cm.den, hk']
theorem c28x11 {F : Nat → List Int → Option (List Int)} {k a b c d : Int} (g22 : F 22 = checkS) (g46 : F 46 = broughtS) (g47 : F 47 = cornersS) (g48 : F 48 = dividedS) (g49 : F 49 = movedS) (g50 : F 50 = bitsS) (g51 : F 51 = comparedS) (hr : in4 a b c d) : t28x11.den F 0 [11, k, a, b, c, d] = some (0, binR 11 k a b c d) := by
  obtain ⟨ha, hb, hc, hd⟩ := hr
  have f1 : F 22 [k, a, b] = some [checkE k a b] := by rw [g22]; exact if_pos ⟨ha, hb⟩
  have f2 : F 22 [k, c, d] = some [checkE k c d] := by rw [g22]; exact if_pos ⟨hc, hd⟩
  by_cases hk : ((k = 1 ∨ k = 2) ∨ k = 3)
  · have hk' : (((k = 1 ∨ k = 2) ∨ k = 3)) = True := eq_true hk
    have hf : fitsB 11 k := by unfold fitsB; omega
    by_cases o1 : okR k a b
    · have c1 : checkE k a b = 0 := if_pos o1
      by_cases o2 : okR k c d
      · have c2 : checkE k c d = 0 := if_pos o2
        have hab := o1.2
        have hcd := o2.2
        rw [binR_ok ⟨hf, o1, o2⟩]
        rw [c1] at f1
        rw [c2] at f2
        have e1 : F 51 [11, a, b, c, d] = some [if cmpA 11 a b c d then 1 else 0, if cmpN 11 a b c d then 0 else 1] := by rw [g51]; exact if_pos ⟨by omega, by omega, hab, hcd⟩
        have e9 : effS 11 k a b c d = [if cmpA 11 a b c d then 1 else 0, if cmpN 11 a b c d then 0 else 1, 1, 0, 0] := rfl
        rw [e9]
        have hk2 : (k = 1 ∨ k = 2 ∨ k = 3) = True := eq_true (by omega)
        simp [t28x11, T.den, B.den, A.den, E.den, Cm.den, f1, f2, hk', hk2, e1, or_assoc] <;> omega
      · have c2 : checkE k c d = 2 := if_neg o2
        rw [binR_no (fun h => o2 h.2.2)]
        rw [c1] at f1
        rw [c2] at f2
        have hk2 : (k = 1 ∨ k = 2 ∨ k = 3) = True := eq_true (by omega)
        simp [t28x11, T.den, B.den, A.den, E.den, Cm.den, f1, f2, hk', hk2, or_assoc] <;> omega
    · have c1 : checkE k a b = 2 := if_neg o1
      rw [binR_no (fun h => o1 h.2.1)]
      rw [c1] at f1
      have hk2 : (k = 1 ∨ k = 2 ∨ k = 3) = True := eq_true (by omega)
      simp [t28x11, T.den, B.den, A.den, E.den, Cm.den, f1, hk', hk2, or_assoc]
  · have hk2 : (k = 1 ∨ k = 2 ∨ k = 3) = False := eq_false (by omega)
    rw [binR_no (fun h => by have := h.1; unfold fitsB at this; omega)]
    simp [t28x11, T.den, B.den, A.den, E.den, Cm.den, hk2, or_assoc]
theorem c28x12 {F : Nat → List Int → Option (List Int)} {k a b c d : Int} (g22 : F 22 = checkS) (g46 : F 46 = broughtS) (g47 : F 47 = cornersS) (g48 : F 48 = dividedS) (g49 : F 49 = movedS) (g50 : F 50 = bitsS) (g51 : F 51 = comparedS) (hr : in4 a b c d) : t28x12.den F 0 [12, k, a, b, c, d] = some (0, binR 12 k a b c d) := by
  obtain ⟨ha, hb, hc, hd⟩ := hr
  have f1 : F 22 [k, a, b] = some [checkE k a b] := by rw [g22]; exact if_pos ⟨ha, hb⟩
  have f2 : F 22 [k, c, d] = some [checkE k c d] := by rw [g22]; exact if_pos ⟨hc, hd⟩
  by_cases hk : ((k = 1 ∨ k = 2) ∨ k = 3)
  · have hk' : (((k = 1 ∨ k = 2) ∨ k = 3)) = True := eq_true hk
    have hf : fitsB 12 k := by unfold fitsB; omega
    by_cases o1 : okR k a b
    · have c1 : checkE k a b = 0 := if_pos o1
      by_cases o2 : okR k c d
      · have c2 : checkE k c d = 0 := if_pos o2
        have hab := o1.2
        have hcd := o2.2
        rw [binR_ok ⟨hf, o1, o2⟩]
        rw [c1] at f1
        rw [c2] at f2
        have e1 : F 51 [12, a, b, c, d] = some [if cmpA 12 a b c d then 1 else 0, if cmpN 12 a b c d then 0 else 1] := by rw [g51]; exact if_pos ⟨by omega, by omega, hab, hcd⟩
        have e9 : effS 12 k a b c d = [if cmpA 12 a b c d then 1 else 0, if cmpN 12 a b c d then 0 else 1, 1, 0, 0] := rfl
        rw [e9]
        have hk2 : (k = 1 ∨ k = 2 ∨ k = 3) = True := eq_true (by omega)
        simp [t28x12, T.den, B.den, A.den, E.den, Cm.den, f1, f2, hk', hk2, e1, or_assoc] <;> omega
      · have c2 : checkE k c d = 2 := if_neg o2
        rw [binR_no (fun h => o2 h.2.2)]
        rw [c1] at f1
        rw [c2] at f2
        have hk2 : (k = 1 ∨ k = 2 ∨ k = 3) = True := eq_true (by omega)
        simp [t28x12, T.den, B.den, A.den, E.den, Cm.den, f1, f2, hk', hk2, or_assoc] <;> omega
    · have c1 : checkE k a b = 2 := if_neg o1
      rw [binR_no (fun h => o1 h.2.1)]
      rw [c1] at f1
      have hk2 : (k = 1 ∨ k = 2 ∨ k = 3) = True := eq_true (by omega)
      simp [t28x12, T.den, B.den, A.den, E.den, Cm.den, f1, hk', hk2, or_assoc]
  · have hk2 : (k = 1 ∨ k = 2 ∨ k = 3) = False := eq_false (by omega)
    rw [binR_no (fun h => by have := h.1; unfold fitsB at this; omega)]
    simp [t28x12, T.den, B.den, A.den, E.den, Cm.den, hk2, or_assoc]
theorem c28x13 {F : Nat → List Int → Option (List Int)} {k a b c d : Int} (g22 : F 22 = checkS) (g46 : F 46 = broughtS) (g47 : F 47 = cornersS) (g48 : F 48 = dividedS) (g49 : F 49 = movedS) (g50 : F 50 = bitsS) (g51 : F 51 = comparedS) (hr : in4 a b c d) : t28x13.den F 0 [13, k, a, b, c, d] = some (0, binR 13 k a b c d) := by
  obtain ⟨ha, hb, hc, hd⟩ := hr
  have f1 : F 22 [k, a, b] = some [checkE k a b] := by rw [g22]; exact if_pos ⟨ha, hb⟩
  have f2 : F 22 [k, c, d] = some [checkE k c d] := by rw [g22]; exact if_pos ⟨hc, hd⟩
  by_cases hk : (k = 1 ∨ k = 2)
  · have hk' : ((k = 1 ∨ k = 2)) = True := eq_true hk
    have hf : fitsB 13 k := by unfold fitsB; omega
    by_cases o1 : okR k a b
    · have c1 : checkE k a b = 0 := if_pos o1
      by_cases o2 : okR k c d
      · have c2 : checkE k c d = 0 := if_pos o2
        have hab := o1.2
        have hcd := o2.2
        rw [binR_ok ⟨hf, o1, o2⟩]
        rw [c1] at f1
        rw [c2] at f2
        have e1 : F 51 [13, a, b, c, d] = some [if cmpA 13 a b c d then 1 else 0, if cmpN 13 a b c d then 0 else 1] := by rw [g51]; exact if_pos ⟨by omega, by omega, hab, hcd⟩
        have e9 : effS 13 k a b c d = [if cmpA 13 a b c d then 1 else 0, if cmpN 13 a b c d then 0 else 1, 1, 0, 0] := rfl
        rw [e9]
        simp [t28x13, T.den, B.den, A.den, E.den, Cm.den, f1, f2, hk', e1] <;> omega
      · have c2 : checkE k c d = 2 := if_neg o2
        rw [binR_no (fun h => o2 h.2.2)]
        rw [c1] at f1
        rw [c2] at f2
        simp [t28x13, T.den, B.den, A.den, E.den, Cm.den, f1, f2, hk'] <;> omega
    · have c1 : checkE k a b = 2 := if_neg o1
      rw [binR_no (fun h => o1 h.2.1)]
      rw [c1] at f1
      simp [t28x13, T.den, B.den, A.den, E.den, Cm.den, f1, hk']
  · have hk' : ((k = 1 ∨ k = 2)) = False := eq_false hk
    rw [binR_no (fun h => by have := h.1; unfold fitsB at this; omega)]
    simp [t28x13, T.den, B.den, A.den, E.den, Cm.den, hk']
theorem c28x14 {F : Nat → List Int → Option (List Int)} {k a b c d : Int} (g22 : F 22 = checkS) (g46 : F 46 = broughtS) (g47 : F 47 = cornersS) (g48 : F 48 = dividedS) (g49 : F 49 = movedS) (g50 : F 50 = bitsS) (g51 : F 51 = comparedS) (hr : in4 a b c d) : t28x14.den F 0 [14, k, a, b, c, d] = some (0, binR 14 k a b c d) := by
  obtain ⟨ha, hb, hc, hd⟩ := hr
  have f1 : F 22 [k, a, b] = some [checkE k a b] := by rw [g22]; exact if_pos ⟨ha, hb⟩
  have f2 : F 22 [k, c, d] = some [checkE k c d] := by rw [g22]; exact if_pos ⟨hc, hd⟩
  by_cases hk : (k = 1 ∨ k = 2)
  · have hk' : ((k = 1 ∨ k = 2)) = True := eq_true hk
    have hf : fitsB 14 k := by unfold fitsB; omega
    by_cases o1 : okR k a b
    · have c1 : checkE k a b = 0 := if_pos o1
      by_cases o2 : okR k c d
      · have c2 : checkE k c d = 0 := if_pos o2
        have hab := o1.2
        have hcd := o2.2
        rw [binR_ok ⟨hf, o1, o2⟩]
        rw [c1] at f1
        rw [c2] at f2
        have e1 : F 51 [14, a, b, c, d] = some [if cmpA 14 a b c d then 1 else 0, if cmpN 14 a b c d then 0 else 1] := by rw [g51]; exact if_pos ⟨by omega, by omega, hab, hcd⟩
        have e9 : effS 14 k a b c d = [if cmpA 14 a b c d then 1 else 0, if cmpN 14 a b c d then 0 else 1, 1, 0, 0] := rfl
        rw [e9]
        simp [t28x14, T.den, B.den, A.den, E.den, Cm.den, f1, f2, hk', e1] <;> omega
      · have c2 : checkE k c d = 2 := if_neg o2
        rw [binR_no (fun h => o2 h.2.2)]
        rw [c1] at f1
        rw [c2] at f2
        simp [t28x14, T.den, B.den, A.den, E.den, Cm.den, f1, f2, hk'] <;> omega
    · have c1 : checkE k a b = 2 := if_neg o1
      rw [binR_no (fun h => o1 h.2.1)]
      rw [c1] at f1
      simp [t28x14, T.den, B.den, A.den, E.den, Cm.den, f1, hk']
  · have hk' : ((k = 1 ∨ k = 2)) = False := eq_false hk
    rw [binR_no (fun h => by have := h.1; unfold fitsB at this; omega)]
    simp [t28x14, T.den, B.den, A.den, E.den, Cm.den, hk']
theorem c28x15 {F : Nat → List Int → Option (List Int)} {k a b c d : Int} (g22 : F 22 = checkS) (g46 : F 46 = broughtS) (g47 : F 47 = cornersS) (g48 : F 48 = dividedS) (g49 : F 49 = movedS) (g50 : F 50 = bitsS) (g51 : F 51 = comparedS) (hr : in4 a b c d) : t28x15.den F 0 [15, k, a, b, c, d] = some (0, binR 15 k a b c d) := by
  obtain ⟨ha, hb, hc, hd⟩ := hr
  have f1 : F 22 [k, a, b] = some [checkE k a b] := by rw [g22]; exact if_pos ⟨ha, hb⟩
  have f2 : F 22 [k, c, d] = some [checkE k c d] := by rw [g22]; exact if_pos ⟨hc, hd⟩
  by_cases hk : (k = 1 ∨ k = 2)
  · have hk' : ((k = 1 ∨ k = 2)) = True := eq_true hk
    have hf : fitsB 15 k := by unfold fitsB; omega
    by_cases o1 : okR k a b
    · have c1 : checkE k a b = 0 := if_pos o1
      by_cases o2 : okR k c d
      · have c2 : checkE k c d = 0 := if_pos o2
        have hab := o1.2
        have hcd := o2.2
        rw [binR_ok ⟨hf, o1, o2⟩]
        rw [c1] at f1
        rw [c2] at f2
        have e1 : F 51 [15, a, b, c, d] = some [if cmpA 15 a b c d then 1 else 0, if cmpN 15 a b c d then 0 else 1] := by rw [g51]; exact if_pos ⟨by omega, by omega, hab, hcd⟩
        have e9 : effS 15 k a b c d = [if cmpA 15 a b c d then 1 else 0, if cmpN 15 a b c d then 0 else 1, 1, 0, 0] := rfl
        rw [e9]
        simp [t28x15, T.den, B.den, A.den, E.den, Cm.den, f1, f2, hk', e1] <;> omega
      · have c2 : checkE k c d = 2 := if_neg o2
        rw [binR_no (fun h => o2 h.2.2)]
        rw [c1] at f1
        rw [c2] at f2
        simp [t28x15, T.den, B.den, A.den, E.den, Cm.den, f1, f2, hk'] <;> omega
    · have c1 : checkE k a b = 2 := if_neg o1
      rw [binR_no (fun h => o1 h.2.1)]
      rw [c1] at f1
      simp [t28x15, T.den, B.den, A.den, E.den, Cm.den, f1, hk']
  · have hk' : ((k = 1 ∨ k = 2)) = False := eq_false hk
    rw [binR_no (fun h => by have := h.1; unfold fitsB at this; omega)]
    simp [t28x15, T.den, B.den, A.den, E.den, Cm.den, hk']
theorem c28x16 {F : Nat → List Int → Option (List Int)} {k a b c d : Int} (g22 : F 22 = checkS) (g46 : F 46 = broughtS) (g47 : F 47 = cornersS) (g48 : F 48 = dividedS) (g49 : F 49 = movedS) (g50 : F 50 = bitsS) (g51 : F 51 = comparedS) (hr : in4 a b c d) : t28x16.den F 0 [16, k, a, b, c, d] = some (0, binR 16 k a b c d) := by
  obtain ⟨ha, hb, hc, hd⟩ := hr
  have f1 : F 22 [k, a, b] = some [checkE k a b] := by rw [g22]; exact if_pos ⟨ha, hb⟩
  have f2 : F 22 [k, c, d] = some [checkE k c d] := by rw [g22]; exact if_pos ⟨hc, hd⟩
  by_cases hk : (k = 1 ∨ k = 2)
  · have hk' : ((k = 1 ∨ k = 2)) = True := eq_true hk
    have hf : fitsB 16 k := by unfold fitsB; omega
    by_cases o1 : okR k a b
    · have c1 : checkE k a b = 0 := if_pos o1
      by_cases o2 : okR k c d
      · have c2 : checkE k c d = 0 := if_pos o2
        have hab := o1.2
        have hcd := o2.2
        rw [binR_ok ⟨hf, o1, o2⟩]
        rw [c1] at f1
        rw [c2] at f2
        have e1 : F 51 [16, a, b, c, d] = some [if cmpA 16 a b c d then 1 else 0, if cmpN 16 a b c d then 0 else 1] := by rw [g51]; exact if_pos ⟨by omega, by omega, hab, hcd⟩
        have e9 : effS 16 k a b c d = [if cmpA 16 a b c d then 1 else 0, if cmpN 16 a b c d then 0 else 1, 1, 0, 0] := rfl
        rw [e9]
        simp [t28x16, T.den, B.den, A.den, E.den, Cm.den, f1, f2, hk', e1] <;> omega
      · have c2 : checkE k c d = 2 := if_neg o2
        rw [binR_no (fun h => o2 h.2.2)]
        rw [c1] at f1
        rw [c2] at f2
        simp [t28x16, T.den, B.den, A.den, E.den, Cm.den, f1, f2, hk'] <;> omega
    · have c1 : checkE k a b = 2 := if_neg o1
      rw [binR_no (fun h => o1 h.2.1)]
      rw [c1] at f1
      simp [t28x16, T.den, B.den, A.den, E.den, Cm.den, f1, hk']
  · have hk' : ((k = 1 ∨ k = 2)) = False := eq_false hk
    rw [binR_no (fun h => by have := h.1; unfold fitsB at this; omega)]
    simp [t28x16, T.den, B.den, A.den, E.den, Cm.den, hk']
theorem c28x17 {F : Nat → List Int → Option (List Int)} {k a b c d : Int} (g22 : F 22 = checkS) (g46 : F 46 = broughtS) (g47 : F 47 = cornersS) (g48 : F 48 = dividedS) (g49 : F 49 = movedS) (g50 : F 50 = bitsS) (g51 : F 51 = comparedS) (hr : in4 a b c d) : t28x17.den F 0 [17, k, a, b, c, d] = some (0, binR 17 k a b c d) := by
  obtain ⟨ha, hb, hc, hd⟩ := hr
  have f1 : F 22 [k, a, b] = some [checkE k a b] := by rw [g22]; exact if_pos ⟨ha, hb⟩
  have f2 : F 22 [k, c, d] = some [checkE k c d] := by rw [g22]; exact if_pos ⟨hc, hd⟩
  by_cases hk : k = 3
  · have hk' : (k = 3) = True := eq_true hk
    have hf : fitsB 17 k := by unfold fitsB; omega
    by_cases o1 : okR k a b
    · have c1 : checkE k a b = 0 := if_pos o1
      by_cases o2 : okR k c d
      · have c2 : checkE k c d = 0 := if_pos o2
        have hab := o1.2
        have hcd := o2.2
        rw [binR_ok ⟨hf, o1, o2⟩]
        rw [c1] at f1
        rw [c2] at f2
        subst hk
        have hv : (0 ≤ a ∧ b ≤ 1) ∧ 0 ≤ c ∧ d ≤ 1 := by unfold okR at o1 o2; omega
        have w1 : w64 (a * c) = a * c := by
          rcases (show a = 0 ∨ a = 1 by omega) with rfl | rfl <;> rcases (show c = 0 ∨ c = 1 by omega) with rfl | rfl <;> decide
        have w2 : w64 (b * d) = b * d := by
          rcases (show b = 0 ∨ b = 1 by omega) with rfl | rfl <;> rcases (show d = 0 ∨ d = 1 by omega) with rfl | rfl <;> decide
        have e9 : effS 17 3 a b c d = [a * c, b * d, 1, 0, 0] := rfl
        rw [e9]
        simp [t28x17, T.den, B.den, A.den, E.den, Cm.den, f1, f2, wrap64, w1, w2] <;> omega
      · have c2 : checkE k c d = 2 := if_neg o2
        rw [binR_no (fun h => o2 h.2.2)]
        rw [c1] at f1
        rw [c2] at f2
        simp [t28x17, T.den, B.den, A.den, E.den, Cm.den, f1, f2, hk'] <;> omega
    · have c1 : checkE k a b = 2 := if_neg o1
      rw [binR_no (fun h => o1 h.2.1)]
      rw [c1] at f1
      simp [t28x17, T.den, B.den, A.den, E.den, Cm.den, f1, hk']
  · have hk' : (k = 3) = False := eq_false hk
    rw [binR_no (fun h => by have := h.1; unfold fitsB at this; omega)]
    simp [t28x17, T.den, B.den, A.den, E.den, Cm.den, hk']
theorem c28x18 {F : Nat → List Int → Option (List Int)} {k a b c d : Int} (g22 : F 22 = checkS) (g46 : F 46 = broughtS) (g47 : F 47 = cornersS) (g48 : F 48 = dividedS) (g49 : F 49 = movedS) (g50 : F 50 = bitsS) (g51 : F 51 = comparedS) (hr : in4 a b c d) : t28x18.den F 0 [18, k, a, b, c, d] = some (0, binR 18 k a b c d) := by
  obtain ⟨ha, hb, hc, hd⟩ := hr
  have f1 : F 22 [k, a, b] = some [checkE k a b] := by rw [g22]; exact if_pos ⟨ha, hb⟩
  have f2 : F 22 [k, c, d] = some [checkE k c d] := by rw [g22]; exact if_pos ⟨hc, hd⟩
  by_cases hk : k = 3
  · have hk' : (k = 3) = True := eq_true hk
    have hf : fitsB 18 k := by unfold fitsB; omega
    by_cases o1 : okR k a b
    · have c1 : checkE k a b = 0 := if_pos o1
      by_cases o2 : okR k c d
      · have c2 : checkE k c d = 0 := if_pos o2
        have hab := o1.2
        have hcd := o2.2
        rw [binR_ok ⟨hf, o1, o2⟩]
        rw [c1] at f1
        rw [c2] at f2
        subst hk
        have e9 : effS 18 3 a b c d = [max a c, max b d, 1, 0, 0] := rfl
        rw [e9]
        simp [t28x18, T.den, B.den, A.den, E.den, Cm.den, f1, f2, mx_eq] <;> omega
      · have c2 : checkE k c d = 2 := if_neg o2
        rw [binR_no (fun h => o2 h.2.2)]
        rw [c1] at f1
        rw [c2] at f2
        simp [t28x18, T.den, B.den, A.den, E.den, Cm.den, f1, f2, hk'] <;> omega
    · have c1 : checkE k a b = 2 := if_neg o1
      rw [binR_no (fun h => o1 h.2.1)]
      rw [c1] at f1
      simp [t28x18, T.den, B.den, A.den, E.den, Cm.den, f1, hk']
  · have hk' : (k = 3) = False := eq_false hk
    rw [binR_no (fun h => by have := h.1; unfold fitsB at this; omega)]
    simp [t28x18, T.den, B.den, A.den, E.den, Cm.den, hk']
theorem y28 {op k a b c d : Int} {w : World} (h1 : op ≠ 1) (h2 : op ≠ 2) (h3 : op ≠ 3) (h4 : op ≠ 4) (h5 : op ≠ 5) (h6 : op ≠ 6) (h7 : op ≠ 7) (h8 : op ≠ 8) (h9 : op ≠ 9) (h10 : op ≠ 10) (h11 : op ≠ 11) (h12 : op ≠ 12) (h13 : op ≠ 13) (h14 : op ≠ 14) (h15 : op ≠ 15) (h16 : op ≠ 16) (h17 : op ≠ 17) (h18 : op ≠ 18) (hr : in4 a b c d) (hg : Glob w) : CallSem Tryd.prog 28 (vS sg28.ins [op, k, a, b, c, d]).toArray w fun v w' => v = tupW (vS sg28.outs (binR op k a b c d)) ∧ Below w.heap.size w w' := by
  refine ent_run unAll (l := [p22, p46, p47, p48, p49, p50, p51]) (ents_cons e22 (ents_cons e46 (ents_cons e47 (ents_cons e48 (ents_cons e49 (ents_cons e50 (ents_cons e51 ents_nil))))))) (is := [op, k, a, b, c, d]) (K := 0) q28y rfl rfl (by kernel_rfl) (by simp [PcOk, B.den, Cm.den, A.den, h1, h2, h3, h4, h5, h6, h7, h8, h9, h10, h11, h12, h13, h14, h15, h16, h17, h18]) (by simp [B.wf, A.wf, Sh.len, Sh.size, sg28]) hg ?_
  rw [binR_no (fun h => by have := h.1; unfold fitsB at this; omega)]
  have hc : ¬ ((1 ≤ op ∧ op ≤ 10) ∨ 13 ≤ op ∧ op ≤ 16) := by omega
  simp [t28y, T.den, B.den, A.den, E.den, Cm.den, hc]
noncomputable def p28 : Sp := (28, sg28, binS)
theorem e28 : Ent p28 := by
  intro args rs w h hl hg
  match args, hl with
  | [op, k, a, b, c, d], _ =>
    simp only [p28, binS] at h
    split at h
    · rename_i hr
      cases h
      by_cases o1 : op = 1
      · subst o1; exact ent_run unAll (l := [p22, p46, p47, p48, p49, p50, p51]) (ents_cons e22 (ents_cons e46 (ents_cons e47 (ents_cons e48 (ents_cons e49 (ents_cons e50 (ents_cons e51 ents_nil))))))) (is := [1, k, a, b, c, d]) (K := 0) q28x1 rfl rfl (by kernel_rfl) (fun _ h => absurd h List.not_mem_nil) (fun _ h => absurd h List.not_mem_nil) hg (c28x1 rfl rfl rfl rfl rfl rfl rfl hr)
      by_cases o2 : op = 2
      · subst o2; exact ent_run unAll (l := [p22, p46, p47, p48, p49, p50, p51]) (ents_cons e22 (ents_cons e46 (ents_cons e47 (ents_cons e48 (ents_cons e49 (ents_cons e50 (ents_cons e51 ents_nil))))))) (is := [2, k, a, b, c, d]) (K := 0) q28x2 rfl rfl (by kernel_rfl) (fun _ h => absurd h List.not_mem_nil) (fun _ h => absurd h List.not_mem_nil) hg (c28x2 rfl rfl rfl rfl rfl rfl rfl hr)
      by_cases o3 : op = 3
      · subst o3; exact ent_run unAll (l := [p22, p46, p47, p48, p49, p50, p51]) (ents_cons e22 (ents_cons e46 (ents_cons e47 (ents_cons e48 (ents_cons e49 (ents_cons e50 (ents_cons e51 ents_nil))))))) (is := [3, k, a, b, c, d]) (K := 0) q28x3 rfl rfl (by kernel_rfl) (fun _ h => absurd h List.not_mem_nil) (fun _ h => absurd h List.not_mem_nil) hg (c28x3 rfl rfl rfl rfl rfl rfl rfl hr)
      by_cases o4 : op = 4
      · subst o4; exact ent_run unAll (l := [p22, p46, p47, p48, p49, p50, p51]) (ents_cons e22 (ents_cons e46 (ents_cons e47 (ents_cons e48 (ents_cons e49 (ents_cons e50 (ents_cons e51 ents_nil))))))) (is := [4, k, a, b, c, d]) (K := 0) q28x4 rfl rfl (by kernel_rfl) (fun _ h => absurd h List.not_mem_nil) (fun _ h => absurd h List.not_mem_nil) hg (c28x4 rfl rfl rfl rfl rfl rfl rfl hr)
      by_cases o5 : op = 5
      · subst o5; exact ent_run unAll (l := [p22, p46, p47, p48, p49, p50, p51]) (ents_cons e22 (ents_cons e46 (ents_cons e47 (ents_cons e48 (ents_cons e49 (ents_cons e50 (ents_cons e51 ents_nil))))))) (is := [5, k, a, b, c, d]) (K := 0) q28x5 rfl rfl (by kernel_rfl) (fun _ h => absurd h List.not_mem_nil) (fun _ h => absurd h List.not_mem_nil) hg (c28x5 rfl rfl rfl rfl rfl rfl rfl hr)
      by_cases o6 : op = 6
      · subst o6; exact ent_run unAll (l := [p22, p46, p47, p48, p49, p50, p51]) (ents_cons e22 (ents_cons e46 (ents_cons e47 (ents_cons e48 (ents_cons e49 (ents_cons e50 (ents_cons e51 ents_nil))))))) (is := [6, k, a, b, c, d]) (K := 0) q28x6 rfl rfl (by kernel_rfl) (fun _ h => absurd h List.not_mem_nil) (fun _ h => absurd h List.not_mem_nil) hg (c28x6 rfl rfl rfl rfl rfl rfl rfl hr)
      by_cases o7 : op = 7
      · subst o7; exact ent_run unAll (l := [p22, p46, p47, p48, p49, p50, p51]) (ents_cons e22 (ents_cons e46 (ents_cons e47 (ents_cons e48 (ents_cons e49 (ents_cons e50 (ents_cons e51 ents_nil))))))) (is := [7, k, a, b, c, d]) (K := 0) q28x7 rfl rfl (by kernel_rfl) (fun _ h => absurd h List.not_mem_nil) (fun _ h => absurd h List.not_mem_nil) hg (c28x7 rfl rfl rfl rfl rfl rfl rfl hr)
      by_cases o8 : op = 8
      · subst o8; exact ent_run unAll (l := [p22, p46, p47, p48, p49, p50, p51]) (ents_cons e22 (ents_cons e46 (ents_cons e47 (ents_cons e48 (ents_cons e49 (ents_cons e50 (ents_cons e51 ents_nil))))))) (is := [8, k, a, b, c, d]) (K := 0) q28x8 rfl rfl (by kernel_rfl) (fun _ h => absurd h List.not_mem_nil) (fun _ h => absurd h List.not_mem_nil) hg (c28x8 rfl rfl rfl rfl rfl rfl rfl hr)
      by_cases o9 : op = 9
      · subst o9; exact ent_run unAll (l := [p22, p46, p47, p48, p49, p50, p51]) (ents_cons e22 (ents_cons e46 (ents_cons e47 (ents_cons e48 (ents_cons e49 (ents_cons e50 (ents_cons e51 ents_nil))))))) (is := [9, k, a, b, c, d]) (K := 0) q28x9 rfl rfl (by kernel_rfl) (fun _ h => absurd h List.not_mem_nil) (fun _ h => absurd h List.not_mem_nil) hg (c28x9 rfl rfl rfl rfl rfl rfl rfl hr)
      by_cases o10 : op = 10
      · subst o10; exact ent_run unAll (l := [p22, p46, p47, p48, p49, p50, p51]) (ents_cons e22 (ents_cons e46 (ents_cons e47 (ents_cons e48 (ents_cons e49 (ents_cons e50 (ents_cons e51 ents_nil))))))) (is := [10, k, a, b, c, d]) (K := 0) q28x10 rfl rfl (by kernel_rfl) (fun _ h => absurd h List.not_mem_nil) (fun _ h => absurd h List.not_mem_nil) hg (c28x10 rfl rfl rfl rfl rfl rfl rfl hr)
      by_cases o11 : op = 11
      · subst o11; exact ent_run unAll (l := [p22, p46, p47, p48, p49, p50, p51]) (ents_cons e22 (ents_cons e46 (ents_cons e47 (ents_cons e48 (ents_cons e49 (ents_cons e50 (ents_cons e51 ents_nil))))))) (is := [11, k, a, b, c, d]) (K := 0) q28x11 rfl rfl (by kernel_rfl) (fun _ h => absurd h List.not_mem_nil) (fun _ h => absurd h List.not_mem_nil) hg (c28x11 rfl rfl rfl rfl rfl rfl rfl hr)
      by_cases o12 : op = 12
      · subst o12; exact ent_run unAll (l := [p22, p46, p47, p48, p49, p50, p51]) (ents_cons e22 (ents_cons e46 (ents_cons e47 (ents_cons e48 (ents_cons e49 (ents_cons e50 (ents_cons e51 ents_nil))))))) (is := [12, k, a, b, c, d]) (K := 0) q28x12 rfl rfl (by kernel_rfl) (fun _ h => absurd h List.not_mem_nil) (fun _ h => absurd h List.not_mem_nil) hg (c28x12 rfl rfl rfl rfl rfl rfl rfl hr)
      by_cases o13 : op = 13
      · subst o13; exact ent_run unAll (l := [p22, p46, p47, p48, p49, p50, p51]) (ents_cons e22 (ents_cons e46 (ents_cons e47 (ents_cons e48 (ents_cons e49 (ents_cons e50 (ents_cons e51 ents_nil))))))) (is := [13, k, a, b, c, d]) (K := 0) q28x13 rfl rfl (by kernel_rfl) (fun _ h => absurd h List.not_mem_nil) (fun _ h => absurd h List.not_mem_nil) hg (c28x13 rfl rfl rfl rfl rfl rfl rfl hr)
      by_cases o14 : op = 14
      · subst o14; exact ent_run unAll (l := [p22, p46, p47, p48, p49, p50, p51]) (ents_cons e22 (ents_cons e46 (ents_cons e47 (ents_cons e48 (ents_cons e49 (ents_cons e50 (ents_cons e51 ents_nil))))))) (is := [14, k, a, b, c, d]) (K := 0) q28x14 rfl rfl (by kernel_rfl) (fun _ h => absurd h List.not_mem_nil) (fun _ h => absurd h List.not_mem_nil) hg (c28x14 rfl rfl rfl rfl rfl rfl rfl hr)
      by_cases o15 : op = 15
      · subst o15; exact ent_run unAll (l := [p22, p46, p47, p48, p49, p50, p51]) (ents_cons e22 (ents_cons e46 (ents_cons e47 (ents_cons e48 (ents_cons e49 (ents_cons e50 (ents_cons e51 ents_nil))))))) (is := [15, k, a, b, c, d]) (K := 0) q28x15 rfl rfl (by kernel_rfl) (fun _ h => absurd h List.not_mem_nil) (fun _ h => absurd h List.not_mem_nil) hg (c28x15 rfl rfl rfl rfl rfl rfl rfl hr)
      by_cases o16 : op = 16
      · subst o16; exact ent_run unAll (l := [p22, p46, p47, p48, p49, p50, p51]) (ents_cons e22 (ents_cons e46 (ents_cons e47 (ents_cons e48 (ents_cons e49 (ents_cons e50 (ents_cons e51 ents_nil))))))) (is := [16, k, a, b, c, d]) (K := 0) q28x16 rfl rfl (by kernel_rfl) (fun _ h => absurd h List.not_mem_nil) (fun _ h => absurd h List.not_mem_nil) hg (c28x16 rfl rfl rfl rfl rfl rfl rfl hr)
      by_cases o17 : op = 17
      · subst o17; exact ent_run unAll (l := [p22, p46, p47, p48, p49, p50, p51]) (ents_cons e22 (ents_cons e46 (ents_cons e47 (ents_cons e48 (ents_cons e49 (ents_cons e50 (ents_cons e51 ents_nil))))))) (is := [17, k, a, b, c, d]) (K := 0) q28x17 rfl rfl (by kernel_rfl) (fun _ h => absurd h List.not_mem_nil) (fun _ h => absurd h List.not_mem_nil) hg (c28x17 rfl rfl rfl rfl rfl rfl rfl hr)
      by_cases o18 : op = 18
      · subst o18; exact ent_run unAll (l := [p22, p46, p47, p48, p49, p50, p51]) (ents_cons e22 (ents_cons e46 (ents_cons e47 (ents_cons e48 (ents_cons e49 (ents_cons e50 (ents_cons e51 ents_nil))))))) (is := [18, k, a, b, c, d]) (K := 0) q28x18 rfl rfl (by kernel_rfl) (fun _ h => absurd h List.not_mem_nil) (fun _ h => absurd h List.not_mem_nil) hg (c28x18 rfl rfl rfl rfl rfl rfl rfl hr)
      exact y28 o1 o2 o3 o4 o5 o6 o7 o8 o9 o10 o11 o12 o13 o14 o15 o16 o17 o18 hr hg
    · cases h
end Go.SXR

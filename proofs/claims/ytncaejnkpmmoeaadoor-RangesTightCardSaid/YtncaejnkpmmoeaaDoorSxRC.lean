/- RANGES: Assume, of the program: it answers as that of the reference. -/
import Derived.Test.YtncaejnkpmmoeaaDoorSxRB
import Derived.Test.YtncaejnkpmmoeaaDoorSxRS
set_option linter.unusedVariables false
set_option linter.unusedSimpArgs false
namespace Go.SXR
open Go Go.SX Go.Proofs Go.RowKit

theorem okR_iff {k a b : Int} (ha : inI a) (hb : inI b) : okR k a b ↔ ¬ ((b < a ∨ a < fullL k) ∨ fullH k < b) ∧ kindE k = 0 := by
  unfold inI at ha hb
  unfold okR fullL fullH kindE
  repeat' split
  all_goals omega
theorem wl_eq (a b c d : Int) : (if c = d then vl a b c else a) = wl a b c d := by
  unfold vl wl
  by_cases h : c = d
  · subst h
    simp only [if_true]
    repeat' split
    all_goals first | rfl | omega | (simp_all; done)
  · simp only [h, if_false]
theorem wh_eq (a b c d : Int) : (if c = d then vh a b c else b) = wh a b c d := by
  unfold vh wh
  by_cases h : c = d
  · subst h
    simp only [if_true]
    repeat' split
    all_goals first | rfl | omega | (simp_all; done)
  · simp only [h, if_false]
theorem fin6_done (p q r s : Int) : fin6 (done5 p q r s) = if q < p ∨ s < r then [0, 0, 0, 0, 0, 0] else [p, q, r, s, 1, 0] := by
  unfold done5 fin6
  by_cases h : q < p ∨ s < r
  · have : ¬ (p ≤ q ∧ r ≤ s) := by omega
    simp [h, this]
  · have : p ≤ q ∧ r ≤ s := by omega
    simp [h, this]
theorem fin6_swap (p q r s : Int) : fin6 (swap5 (done5 p q r s)) = if s < r ∨ q < p then [0, 0, 0, 0, 0, 0] else [r, s, p, q, 1, 0] := by
  unfold done5 swap5 fin6
  by_cases h : s < r ∨ q < p
  · have : ¬ (p ≤ q ∧ r ≤ s) := by omega
    simp [h, this]
  · have : p ≤ q ∧ r ≤ s := by omega
    simp [h, this]
theorem fin6_ne (a b c d : Int) : fin6 (lf1 12 a b c d) = if wh a b c d < wl a b c d ∨ wh c d a b < wl c d a b then [0, 0, 0, 0, 0, 0] else [wl a b c d, wh a b c d, wl c d a b, wh c d a b, 1, 0] := by
  simp only [lf1, show ¬ (12 : Int) = 11 from by decide, if_false, if_true, wl_eq, wh_eq, fin6_done]
theorem fin6_eq (a b c d : Int) (h1 : a ≤ b) (h2 : c ≤ d) : fin6 (lf1 11 a b c d) = if min b d < max a c then [0, 0, 0, 0, 0, 0] else [max a c, min b d, max a c, min b d, 1, 0] := by
  simp only [lf1, if_true]
  unfold meetL meetH meetB fin6
  by_cases h : min b d < max a c
  · simp [h]
  · have n1 : ¬ b < a := by omega
    have n2 : ¬ d < c := by omega
    simp [h, n1, n2]
theorem fin6_lt (a b c d : Int) : fin6 (lf1 13 a b c d) = if no a d then [0, 0, 0, 0, 0, 0] else if min b (w64 (d - 1)) < a ∨ d < max (w64 (a + 1)) c then [0, 0, 0, 0, 0, 0] else [a, min b (w64 (d - 1)), max (w64 (a + 1)) c, d, 1, 0] := by
  simp only [lf1, show ¬ (13 : Int) = 11 from by decide, show ¬ (13 : Int) = 12 from by decide, show ¬ (13 : Int) = 14 from by decide, if_false]
  by_cases h : no a d
  · simp [h, fin6]
  · simp only [h, if_false, fin6_done, Int.max_comm c]
theorem fin6_ge (a b c d : Int) : fin6 (swap5 (lf1 13 a b c d)) = if no a d then [0, 0, 0, 0, 0, 0] else if d < max (w64 (a + 1)) c ∨ min b (w64 (d - 1)) < a then [0, 0, 0, 0, 0, 0] else [max (w64 (a + 1)) c, d, a, min b (w64 (d - 1)), 1, 0] := by
  simp only [lf1, show ¬ (13 : Int) = 11 from by decide, show ¬ (13 : Int) = 12 from by decide, show ¬ (13 : Int) = 14 from by decide, if_false]
  by_cases h : no a d
  · simp [h, fin6, swap5]
  · simp only [h, if_false, fin6_swap, Int.max_comm c]
theorem fin6_le (a b c d : Int) : fin6 (lf1 14 a b c d) = if min b d < a ∨ d < max a c then [0, 0, 0, 0, 0, 0] else [a, min b d, max a c, d, 1, 0] := by
  simp only [lf1, show ¬ (14 : Int) = 11 from by decide, show ¬ (14 : Int) = 12 from by decide, if_false, if_true, fin6_done, Int.max_comm c]
theorem fin6_gt (a b c d : Int) : fin6 (swap5 (lf1 14 a b c d)) = if d < max a c ∨ min b d < a then [0, 0, 0, 0, 0, 0] else [max a c, d, a, min b d, 1, 0] := by
  simp only [lf1, show ¬ (14 : Int) = 11 from by decide, show ¬ (14 : Int) = 12 from by decide, if_false, if_true, fin6_swap, Int.max_comm c]

def t11 : T := (.br (.not (.or (.or (.cmp .lt (.v 0) (.n 11)) (.cmp .lt (.n 16) (.v 0))) (.and (.cmp .eq (.v 1) (.n 3)) (.cmp .lt (.n 12) (.v 0))))) (.call 20 [(.v 1)] 3 (.br (.or (.or (.cmp .lt (.v 3) (.v 2)) (.cmp .lt (.v 2) (.v 7))) (.cmp .lt (.v 8) (.v 3))) (.ret [(.n 0), (.n 0), (.n 0), (.n 0), (.n 0), (.n 2)]) (.br (.or (.or (.cmp .lt (.v 5) (.v 4)) (.cmp .lt (.v 4) (.v 7))) (.cmp .lt (.v 8) (.v 5))) (.ret [(.n 0), (.n 0), (.n 0), (.n 0), (.n 0), (.n 2)]) (.br (.or (.or (.or (.cmp .lt (.v 0) (.n 11)) (.cmp .lt (.n 16) (.v 0))) (.and (.cmp .eq (.v 1) (.n 3)) (.cmp .lt (.n 12) (.v 0)))) (.not (.cmp .eq (.v 9) (.n 0)))) (.ret [(.n 0), (.n 0), (.n 0), (.n 0), (.n 0), (.n 2)]) (.br (.and (.or (.and (.cmp .eq (.v 0) (.n 11)) (.not (.cmp .eq (.v 6) (.n 0)))) (.and (.not (.cmp .eq (.v 0) (.n 11))) (.cmp .eq (.v 6) (.n 0)))) (.not (.cmp .lt (.n 12) (.v 0)))) (.call 32 [(.v 2), (.v 3), (.v 4), (.v 5)] 3 (.lt (.sel (.not (.cmp .eq (.v 12) (.n 0))) (.n 1) (.n 0)) (.ret [(.v 10), (.v 11), (.v 10), (.v 11), (.v 13), (.n 0)]))) (.br (.not (.cmp .lt (.n 12) (.v 0))) (.call 33 [(.v 2), (.v 3), (.v 4), (.v 5)] 2 (.call 33 [(.v 4), (.v 5), (.v 2), (.v 3)] 2 (.br (.or (.cmp .lt (.v 11) (.v 10)) (.cmp .lt (.v 13) (.v 12))) (.ret [(.n 0), (.n 0), (.n 0), (.n 0), (.n 0), (.n 0)]) (.ret [(.v 10), (.v 11), (.v 12), (.v 13), (.n 1), (.n 0)])))) (.br (.or (.and (.cmp .eq (.v 0) (.n 13)) (.not (.cmp .eq (.v 6) (.n 0)))) (.and (.cmp .eq (.v 0) (.n 16)) (.cmp .eq (.v 6) (.n 0)))) (.call 34 [(.v 2), (.v 3), (.v 4), (.v 5)] 4 (.br (.or (.cmp .lt (.v 11) (.v 10)) (.cmp .lt (.v 13) (.v 12))) (.ret [(.n 0), (.n 0), (.n 0), (.n 0), (.n 0), (.n 0)]) (.ret [(.v 10), (.v 11), (.v 12), (.v 13), (.n 1), (.n 0)]))) (.br (.or (.and (.cmp .eq (.v 0) (.n 14)) (.not (.cmp .eq (.v 6) (.n 0)))) (.and (.cmp .eq (.v 0) (.n 15)) (.cmp .eq (.v 6) (.n 0)))) (.call 35 [(.v 2), (.v 3), (.v 4), (.v 5)] 4 (.br (.or (.cmp .lt (.v 11) (.v 10)) (.cmp .lt (.v 13) (.v 12))) (.ret [(.n 0), (.n 0), (.n 0), (.n 0), (.n 0), (.n 0)]) (.ret [(.v 10), (.v 11), (.v 12), (.v 13), (.n 1), (.n 0)]))) (.br (.or (.and (.cmp .eq (.v 0) (.n 15)) (.not (.cmp .eq (.v 6) (.n 0)))) (.and (.cmp .eq (.v 0) (.n 14)) (.cmp .eq (.v 6) (.n 0)))) (.call 34 [(.v 4), (.v 5), (.v 2), (.v 3)] 4 (.br (.or (.cmp .lt (.v 13) (.v 12)) (.cmp .lt (.v 11) (.v 10))) (.ret [(.n 0), (.n 0), (.n 0), (.n 0), (.n 0), (.n 0)]) (.ret [(.v 12), (.v 13), (.v 10), (.v 11), (.n 1), (.n 0)]))) (.call 35 [(.v 4), (.v 5), (.v 2), (.v 3)] 4 (.br (.or (.cmp .lt (.v 13) (.v 12)) (.cmp .lt (.v 11) (.v 10))) (.ret [(.n 0), (.n 0), (.n 0), (.n 0), (.n 0), (.n 0)]) (.ret [(.v 12), (.v 13), (.v 10), (.v 11), (.n 1), (.n 0)])))))))))))) (.ret [(.n 0), (.n 0), (.n 0), (.n 0), (.n 0), (.n 2)]))
theorem q11 : sxFunc (Cf [p20, p32, p33, p34, p35] unAll) 200 11 sg11 = t11 := by kernel_rfl
def p11g : Sp := (11, sg11, assumeS)
theorem e11g : Ent p11g := ent_of unAll (l := [p20, p32, p33, p34, p35]) (ents_cons e20 (ents_cons e32 (ents_cons e33 (ents_cons e34 (ents_cons e35 ents_nil))))) q11 fun args rs h hl => by
  match args, hl with
  | [op, k, a, b, c, d, t], _ =>
    simp only [assumeS] at h
    split at h
    · rename_i hr
      cases h
      obtain ⟨hr, ht⟩ := hr
      refine ⟨0, ?_⟩
      have g20 : fOf [p20, p32, p33, p34, p35] 20 = fullS := rfl
      have g32 : fOf [p20, p32, p33, p34, p35] 32 = meet3S := rfl
      have g33 : fOf [p20, p32, p33, p34, p35] 33 = withoutS := rfl
      have g34 : fOf [p20, p32, p33, p34, p35] 34 = lessS := rfl
      have g35 : fOf [p20, p32, p33, p34, p35] 35 = mostS := rfl
      have w1 : withoutS [a, b, c, d] = some [wl a b c d, wh a b c d] := if_pos hr
      have w2 : withoutS [c, d, a, b] = some [wl c d a b, wh c d a b] := if_pos (in4_swap hr)
      have i1 := okR_iff (k := k) hr.1 hr.2.1
      have i2 := okR_iff (k := k) hr.2.2.1 hr.2.2.2
      by_cases hop : (op < 11 ∨ 16 < op) ∨ k = 3 ∧ 12 < op
      · have hna : ¬ aOk op k a b c d := by unfold aOk; omega
        rcases hop with (h | h) | ⟨rfl, h⟩
        · simp [t11, T.den, B.den, A.den, E.den, Cm.den, h, assumeV, hna]
        · simp [t11, T.den, B.den, A.den, E.den, Cm.den, h, assumeV, hna]
        · simp [t11, T.den, B.den, A.den, E.den, Cm.den, h, assumeV, hna]
      · have n1 : ¬ op < 11 := by omega
        have n2 : ¬ 16 < op := by omega
        have n3 : k = 3 → ¬ 12 < op := by omega
        by_cases hk : okR k a b ∧ okR k c d
        · obtain ⟨q1, q2⟩ := i1.1 hk.1
          obtain ⟨q3, _⟩ := i2.1 hk.2
          have ha : aOk op k a b c d := ⟨by omega, by omega, by omega, hk⟩
          have o1 : a ≤ b := by unfold okR at hk; omega
          have o2 : c ≤ d := by unfold okR at hk; omega
          have hcase : op = 11 ∨ op = 12 ∨ op = 13 ∨ op = 14 ∨ op = 15 ∨ op = 16 := by omega
          rcases hcase with rfl | rfl | rfl | rfl | rfl | rfl <;> rcases ht with rfl | rfl
          · simp [t11, T.den, B.den, A.den, E.den, Cm.den, g20, fullS, q1, q2, q3, g32, g33, g34, g35, w1, w2, meet3S, lessS, mostS, assumeV, ha, opp, lf2, fin6_ne, fin6_eq a b c d o1 o2, fin6_lt, fin6_le, fin6_gt, fin6_ge]
            first | done | (split <;> simp_all; done) | (by_cases z : no a d <;> simp [z] <;> split <;> simp_all; done) | (by_cases z : no c b <;> simp [z] <;> split <;> simp_all; done)
          · simp [t11, T.den, B.den, A.den, E.den, Cm.den, g20, fullS, q1, q2, q3, g32, g33, g34, g35, w1, w2, meet3S, lessS, mostS, assumeV, ha, opp, lf2, fin6_ne, fin6_eq a b c d o1 o2, fin6_lt, fin6_le, fin6_gt, fin6_ge]
            first | done | (split <;> simp_all; done) | (by_cases z : no a d <;> simp [z] <;> split <;> simp_all; done) | (by_cases z : no c b <;> simp [z] <;> split <;> simp_all; done)
          · simp [t11, T.den, B.den, A.den, E.den, Cm.den, g20, fullS, q1, q2, q3, g32, g33, g34, g35, w1, w2, meet3S, lessS, mostS, assumeV, ha, opp, lf2, fin6_ne, fin6_eq a b c d o1 o2, fin6_lt, fin6_le, fin6_gt, fin6_ge]
            first | done | (split <;> simp_all; done) | (by_cases z : no a d <;> simp [z] <;> split <;> simp_all; done) | (by_cases z : no c b <;> simp [z] <;> split <;> simp_all; done)
          · simp [t11, T.den, B.den, A.den, E.den, Cm.den, g20, fullS, q1, q2, q3, g32, g33, g34, g35, w1, w2, meet3S, lessS, mostS, assumeV, ha, opp, lf2, fin6_ne, fin6_eq a b c d o1 o2, fin6_lt, fin6_le, fin6_gt, fin6_ge]
            first | done | (split <;> simp_all; done) | (by_cases z : no a d <;> simp [z] <;> split <;> simp_all; done) | (by_cases z : no c b <;> simp [z] <;> split <;> simp_all; done)
          · have nk : ¬ k = 3 := fun h => n3 h (by decide)
            simp [t11, nk, T.den, B.den, A.den, E.den, Cm.den, g20, fullS, q1, q2, q3, g32, g33, g34, g35, w1, w2, meet3S, lessS, mostS, assumeV, ha, opp, lf2, fin6_ne, fin6_eq a b c d o1 o2, fin6_lt, fin6_le, fin6_gt, fin6_ge]
            first | done | (split <;> simp_all; done) | (by_cases z : no a d <;> simp [z] <;> split <;> simp_all; done) | (by_cases z : no c b <;> simp [z] <;> split <;> simp_all; done)
          · have nk : ¬ k = 3 := fun h => n3 h (by decide)
            simp [t11, nk, T.den, B.den, A.den, E.den, Cm.den, g20, fullS, q1, q2, q3, g32, g33, g34, g35, w1, w2, meet3S, lessS, mostS, assumeV, ha, opp, lf2, fin6_ne, fin6_eq a b c d o1 o2, fin6_lt, fin6_le, fin6_gt, fin6_ge]
            first | done | (split <;> simp_all; done) | (by_cases z : no a d <;> simp [z] <;> split <;> simp_all; done) | (by_cases z : no c b <;> simp [z] <;> split <;> simp_all; done)
          · have nk : ¬ k = 3 := fun h => n3 h (by decide)
            simp [t11, nk, T.den, B.den, A.den, E.den, Cm.den, g20, fullS, q1, q2, q3, g32, g33, g34, g35, w1, w2, meet3S, lessS, mostS, assumeV, ha, opp, lf2, fin6_ne, fin6_eq a b c d o1 o2, fin6_lt, fin6_le, fin6_gt, fin6_ge]
            first | done | (split <;> simp_all; done) | (by_cases z : no a d <;> simp [z] <;> split <;> simp_all; done) | (by_cases z : no c b <;> simp [z] <;> split <;> simp_all; done)
          · have nk : ¬ k = 3 := fun h => n3 h (by decide)
            simp [t11, nk, T.den, B.den, A.den, E.den, Cm.den, g20, fullS, q1, q2, q3, g32, g33, g34, g35, w1, w2, meet3S, lessS, mostS, assumeV, ha, opp, lf2, fin6_ne, fin6_eq a b c d o1 o2, fin6_lt, fin6_le, fin6_gt, fin6_ge]
            first | done | (split <;> simp_all; done) | (by_cases z : no a d <;> simp [z] <;> split <;> simp_all; done) | (by_cases z : no c b <;> simp [z] <;> split <;> simp_all; done)
          · have nk : ¬ k = 3 := fun h => n3 h (by decide)
            simp [t11, nk, T.den, B.den, A.den, E.den, Cm.den, g20, fullS, q1, q2, q3, g32, g33, g34, g35, w1, w2, meet3S, lessS, mostS, assumeV, ha, opp, lf2, fin6_ne, fin6_eq a b c d o1 o2, fin6_lt, fin6_le, fin6_gt, fin6_ge]
            first | done | (split <;> simp_all; done) | (by_cases z : no a d <;> simp [z] <;> split <;> simp_all; done) | (by_cases z : no c b <;> simp [z] <;> split <;> simp_all; done)
          · have nk : ¬ k = 3 := fun h => n3 h (by decide)
            simp [t11, nk, T.den, B.den, A.den, E.den, Cm.den, g20, fullS, q1, q2, q3, g32, g33, g34, g35, w1, w2, meet3S, lessS, mostS, assumeV, ha, opp, lf2, fin6_ne, fin6_eq a b c d o1 o2, fin6_lt, fin6_le, fin6_gt, fin6_ge]
            first | done | (split <;> simp_all; done) | (by_cases z : no a d <;> simp [z] <;> split <;> simp_all; done) | (by_cases z : no c b <;> simp [z] <;> split <;> simp_all; done)
          · have nk : ¬ k = 3 := fun h => n3 h (by decide)
            simp [t11, nk, T.den, B.den, A.den, E.den, Cm.den, g20, fullS, q1, q2, q3, g32, g33, g34, g35, w1, w2, meet3S, lessS, mostS, assumeV, ha, opp, lf2, fin6_ne, fin6_eq a b c d o1 o2, fin6_lt, fin6_le, fin6_gt, fin6_ge]
            first | done | (split <;> simp_all; done) | (by_cases z : no a d <;> simp [z] <;> split <;> simp_all; done) | (by_cases z : no c b <;> simp [z] <;> split <;> simp_all; done)
          · have nk : ¬ k = 3 := fun h => n3 h (by decide)
            simp [t11, nk, T.den, B.den, A.den, E.den, Cm.den, g20, fullS, q1, q2, q3, g32, g33, g34, g35, w1, w2, meet3S, lessS, mostS, assumeV, ha, opp, lf2, fin6_ne, fin6_eq a b c d o1 o2, fin6_lt, fin6_le, fin6_gt, fin6_ge]
            first | done | (split <;> simp_all; done) | (by_cases z : no a d <;> simp [z] <;> split <;> simp_all; done) | (by_cases z : no c b <;> simp [z] <;> split <;> simp_all; done)
        · have hna : ¬ aOk op k a b c d := fun h => hk h.2.2.2
          by_cases c1 : (b < a ∨ a < fullL k) ∨ fullH k < b
          · simp [t11, T.den, B.den, A.den, E.den, Cm.den, n1, n2, n3, g20, fullS, c1, assumeV, hna]
          · by_cases c2 : (d < c ∨ c < fullL k) ∨ fullH k < d
            · simp [t11, T.den, B.den, A.den, E.den, Cm.den, n1, n2, n3, g20, fullS, c1, c2, assumeV, hna]
            · have hke : kindE k ≠ 0 := fun h => hk ⟨i1.2 ⟨c1, h⟩, i2.2 ⟨c2, h⟩⟩
              simp [t11, T.den, B.den, A.den, E.den, Cm.den, n1, n2, n3, g20, fullS, c1, c2, hke, assumeV, hna]
    · cases h
end Go.SXR

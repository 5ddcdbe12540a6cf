/- RANGES: Assume, of the program and of the reference: what both answer. -/
import Derived.Test.YtncaejnkpmmoeaaDoorSxRA
set_option linter.unusedVariables false
set_option linter.unusedSimpArgs false
namespace Go.SXR
open Go Go.SX Go.Proofs Go.RowKit

def swap5 : List Int → List Int
  | [p, q, r, s, t] => [r, s, p, q, t]
  | l => l
def lf2 (op a b c d : Int) : List Int := if op ≤ 14 then lf1 op a b c d else swap5 (lf1 (if op = 15 then 13 else 14) c d a b)
theorem lf2_form (op a b c d : Int) : ∃ p q r s t, lf2 op a b c d = [p, q, r, s, t] ∧ (t = 0 ∨ t = 1) := by
  unfold lf2
  split
  · exact lf1_form op a b c d
  · obtain ⟨p, q, r, s, t, h, ht⟩ := lf1_form (if op = 15 then 13 else 14) c d a b
    exact ⟨r, s, p, q, t, by rw [h]; rfl, ht⟩
def left2S : List Int → Option (List Int)
  | [op, a, b, c, d] => if (11 ≤ op ∧ op ≤ 16) ∧ in4 a b c d then some (lf2 op a b c d) else none
  | _ => none
theorem in4_swap {a b c d : Int} (h : in4 a b c d) : in4 c d a b := ⟨h.2.2.1, h.2.2.2, h.1, h.2.1⟩
def t38 : T := (.br (.cmp .eq (.v 0) (.n 11)) (.call 25 [(.v 1), (.v 2), (.v 3), (.v 4)] 4 (.lt (.sel (.not (.cmp .eq (.v 7) (.n 0))) (.n 1) (.n 0)) (.ret [(.v 5), (.v 6), (.v 5), (.v 6), (.v 9)]))) (.br (.cmp .eq (.v 0) (.n 12)) (.call 52 [(.v 3), (.v 4)] 1 (.br (.not (.cmp .eq (.v 5) (.n 0))) (.call 53 [(.v 1), (.v 2), (.v 3)] 2 (.call 52 [(.v 1), (.v 2)] 1 (.br (.not (.cmp .eq (.v 8) (.n 0))) (.call 53 [(.v 3), (.v 4), (.v 1)] 2 (.lt (.sel (.and (.not (.cmp .lt (.v 7) (.v 6))) (.not (.cmp .lt (.v 10) (.v 9)))) (.n 1) (.n 0)) (.ret [(.v 6), (.v 7), (.v 9), (.v 10), (.v 11)]))) (.lt (.sel (.and (.not (.cmp .lt (.v 7) (.v 6))) (.not (.cmp .lt (.v 4) (.v 3)))) (.n 1) (.n 0)) (.ret [(.v 6), (.v 7), (.v 3), (.v 4), (.v 9)]))))) (.call 52 [(.v 1), (.v 2)] 1 (.br (.not (.cmp .eq (.v 6) (.n 0))) (.call 53 [(.v 3), (.v 4), (.v 1)] 2 (.lt (.sel (.and (.not (.cmp .lt (.v 2) (.v 1))) (.not (.cmp .lt (.v 8) (.v 7)))) (.n 1) (.n 0)) (.ret [(.v 1), (.v 2), (.v 7), (.v 8), (.v 9)]))) (.lt (.sel (.and (.not (.cmp .lt (.v 2) (.v 1))) (.not (.cmp .lt (.v 4) (.v 3)))) (.n 1) (.n 0)) (.ret [(.v 1), (.v 2), (.v 3), (.v 4), (.v 7)])))))) (.br (.cmp .eq (.v 0) (.n 14)) (.lt (.mn (.v 2) (.v 4)) (.lt (.mx (.v 3) (.v 1)) (.lt (.sel (.and (.not (.cmp .lt (.v 5) (.v 1))) (.not (.cmp .lt (.v 4) (.v 6)))) (.n 1) (.n 0)) (.ret [(.v 1), (.v 5), (.v 6), (.v 4), (.v 7)])))) (.br (.cmp .eq (.v 0) (.n 13)) (.br (.or (.cmp .eq (.v 4) (.n (-9223372036854775808))) (.cmp .eq (.v 1) (.n 9223372036854775807))) (.ret [(.v 1), (.v 2), (.v 3), (.v 4), (.n 0)]) (.lt (.sub .i64 (.v 4) (.n 1)) (.lt (.mn (.v 2) (.v 5)) (.lt (.add .i64 (.v 1) (.n 1)) (.lt (.mx (.v 3) (.v 7)) (.lt (.sel (.and (.not (.cmp .lt (.v 6) (.v 1))) (.not (.cmp .lt (.v 4) (.v 8)))) (.n 1) (.n 0)) (.ret [(.v 1), (.v 6), (.v 8), (.v 4), (.v 9)]))))))) (.br (.cmp .eq (.v 0) (.n 15)) (.call 38 [(.n 13), (.v 3), (.v 4), (.v 1), (.v 2)] 5 (.lt (.sel (.not (.cmp .eq (.v 9) (.n 0))) (.n 1) (.n 0)) (.ret [(.v 7), (.v 8), (.v 5), (.v 6), (.v 10)]))) (.call 38 [(.n 14), (.v 3), (.v 4), (.v 1), (.v 2)] 5 (.lt (.sel (.not (.cmp .eq (.v 9) (.n 0))) (.n 1) (.n 0)) (.ret [(.v 7), (.v 8), (.v 5), (.v 6), (.v 10)]))))))))
theorem q38 : sxFunc (Cf [p25, p52, p53, p38a] unAll) 200 38 sg38 = t38 := by kernel_rfl
def p38 : Sp := (38, sg38, left2S)
theorem e38 : Ent p38 := ent_of unAll (l := [p25, p52, p53, p38a]) (ents_cons e25 (ents_cons e52 (ents_cons e53 (ents_cons e38a ents_nil)))) q38 fun args rs h hl => by
  match args, hl with
  | [op, a, b, c, d], _ =>
    simp only [left2S] at h
    split at h
    · rename_i hr
      cases h
      obtain ⟨hop, hr⟩ := hr
      refine ⟨0, ?_⟩
      have g25 : fOf [p25, p52, p53, p38a] 25 = meetS := rfl
      have g52 : fOf [p25, p52, p53, p38a] 52 = singleS := rfl
      have g53 : fOf [p25, p52, p53, p38a] 53 = without2S := rfl
      have g38 : fOf [p25, p52, p53, p38a] 38 = left1S := rfl
      have hm : meetS [a, b, c, d] = some [meetL a b c d, meetH a b c d, meetB a b c d, pairE a b c d] := if_pos hr
      have hmb : meetB a b c d = 0 ∨ meetB a b c d = 1 := by unfold meetB; split <;> omega
      have hcase : op = 11 ∨ op = 12 ∨ op = 13 ∨ op = 14 ∨ op = 15 ∨ op = 16 := by omega
      rcases hcase with rfl | rfl | rfl | rfl | rfl | rfl
      · simp [t38, T.den, B.den, A.den, E.den, Cm.den, g25, g52, g53, hm, lf2, lf1]
        rcases hmb with h | h <;> simp [h]
      · by_cases h1 : c = d <;> by_cases h2 : a = b <;> simp [t38, T.den, B.den, A.den, E.den, Cm.den, g25, g52, g53, singleS, without2S, lf2, lf1, done5, h1, h2]
      · by_cases hh : no a d
        · have hh' := hh
          unfold no at hh'
          simp [t38, T.den, B.den, A.den, E.den, Cm.den, lf2, lf1, done5, hh, hh', mn_eq, mx_eq]
        · have hh' := hh
          unfold no at hh'
          simp only [not_or] at hh'
          simp [t38, T.den, B.den, A.den, E.den, Cm.den, lf2, lf1, done5, hh, hh'.1, hh'.2, wrap64, mn_eq, mx_eq]
      · simp [t38, T.den, B.den, A.den, E.den, Cm.den, lf2, lf1, done5, mn_eq, mx_eq]
      · obtain ⟨p, q, r, s, t, hf, ht⟩ := lf1_form 13 c d a b
        have hl1 : left1S [13, c, d, a, b] = some [p, q, r, s, t] := by rw [← hf]; exact if_pos ⟨.inl rfl, in4_swap hr⟩
        simp [t38, T.den, B.den, A.den, E.den, Cm.den, g38, hl1, lf2, hf, swap5]
        rcases ht with rfl | rfl <;> simp
      · obtain ⟨p, q, r, s, t, hf, ht⟩ := lf1_form 14 c d a b
        have hl1 : left1S [14, c, d, a, b] = some [p, q, r, s, t] := by rw [← hf]; exact if_pos ⟨.inr rfl, in4_swap hr⟩
        simp [t38, T.den, B.den, A.den, E.den, Cm.den, g38, hl1, lf2, hf, swap5]
        rcases ht with rfl | rfl <;> simp
    · cases h

/-! ### Assume -/
def aOk (op k a b c d : Int) : Prop := 11 ≤ op ∧ op ≤ 16 ∧ (k = 3 → op ≤ 12) ∧ okR k a b ∧ okR k c d
instance (op k a b c d : Int) : Decidable (aOk op k a b c d) := by unfold aOk; infer_instance
def fin6 : List Int → List Int
  | [p, q, r, s, t] => if t = 0 then [0, 0, 0, 0, 0, 0] else [p, q, r, s, 1, 0]
  | l => l
def assumeV (op k a b c d t : Int) : List Int := if aOk op k a b c d then fin6 (lf2 (if t = 0 then opp op else op) a b c d) else [0, 0, 0, 0, 0, 2]
theorem fin6_form {l : List Int} (h : ∃ p q r s t, l = [p, q, r, s, t] ∧ (t = 0 ∨ t = 1)) : ∃ x0 x1 x2 x3 x4 x5, fin6 l = [x0, x1, x2, x3, x4, x5] ∧ (x4 = 0 ∨ x4 = 1) := by
  obtain ⟨p, q, r, s, t, rfl, _⟩ := h
  by_cases ht : t = 0
  · exact ⟨0, 0, 0, 0, 0, 0, by simp [fin6, ht], .inl rfl⟩
  · exact ⟨p, q, r, s, 1, 0, by simp [fin6, ht], .inr rfl⟩
theorem assumeV_form (op k a b c d t : Int) : ∃ x0 x1 x2 x3 x4 x5, assumeV op k a b c d t = [x0, x1, x2, x3, x4, x5] ∧ (x4 = 0 ∨ x4 = 1) := by
  unfold assumeV
  split
  · exact fin6_form (lf2_form _ _ _ _ _)
  · exact ⟨_, _, _, _, _, _, rfl, .inl rfl⟩
def assumeS : List Int → Option (List Int)
  | [op, k, a, b, c, d, t] => if in4 a b c d ∧ (t = 0 ∨ t = 1) then some (assumeV op k a b c d t) else none
  | _ => none
def sg12 : Sig := ⟨[I, I, (.agg [.int .i64, .int .i64]), (.agg [.int .i64, .int .i64]), L], [(.agg [.int .i64, .int .i64]), (.agg [.int .i64, .int .i64]), L, I]⟩
def t12 : T := (.br (.not (.or (.cmp .lt (.v 0) (.n 11)) (.cmp .lt (.n 16) (.v 0)))) (.call 36 [(.v 0), (.v 1), (.n 1)] 1 (.br (.not (.or (.or (.cmp .lt (.v 0) (.n 11)) (.cmp .lt (.n 16) (.v 0))) (.cmp .eq (.v 7) (.n 0)))) (.call 22 [(.v 1), (.v 2), (.v 3)] 1 (.br (.not (.or (.or (.or (.cmp .lt (.v 0) (.n 11)) (.cmp .lt (.n 16) (.v 0))) (.cmp .eq (.v 7) (.n 0))) (.not (.cmp .eq (.v 8) (.n 0))))) (.call 22 [(.v 1), (.v 4), (.v 5)] 1 (.br (.or (.or (.or (.or (.cmp .lt (.v 0) (.n 11)) (.cmp .lt (.n 16) (.v 0))) (.cmp .eq (.v 7) (.n 0))) (.not (.cmp .eq (.v 8) (.n 0)))) (.not (.cmp .eq (.v 9) (.n 0)))) (.ret [(.n 0), (.n 0), (.n 0), (.n 0), (.n 0), (.n 2)]) (.br (.cmp .eq (.v 6) (.n 0)) (.call 37 [(.v 0)] 1 (.call 38 [(.v 10), (.v 2), (.v 3), (.v 4), (.v 5)] 5 (.br (.cmp .eq (.v 15) (.n 0)) (.ret [(.n 0), (.n 0), (.n 0), (.n 0), (.n 0), (.n 0)]) (.ret [(.v 11), (.v 12), (.v 13), (.v 14), (.n 1), (.n 0)])))) (.call 38 [(.v 0), (.v 2), (.v 3), (.v 4), (.v 5)] 5 (.br (.cmp .eq (.v 14) (.n 0)) (.ret [(.n 0), (.n 0), (.n 0), (.n 0), (.n 0), (.n 0)]) (.ret [(.v 10), (.v 11), (.v 12), (.v 13), (.n 1), (.n 0)])))))) (.ret [(.n 0), (.n 0), (.n 0), (.n 0), (.n 0), (.n 2)]))) (.ret [(.n 0), (.n 0), (.n 0), (.n 0), (.n 0), (.n 2)]))) (.ret [(.n 0), (.n 0), (.n 0), (.n 0), (.n 0), (.n 2)]))
theorem q12 : sxFunc (Cf [p36, p22, p37, p38] unAll) 200 12 sg12 = t12 := by kernel_rfl
def p12 : Sp := (12, sg12, assumeS)
theorem e12 : Ent p12 := ent_of unAll (l := [p36, p22, p37, p38]) (ents_cons e36 (ents_cons e22 (ents_cons e37 (ents_cons e38 ents_nil)))) q12 fun args rs h hl => by
  match args, hl with
  | [op, k, a, b, c, d, t], _ =>
    simp only [assumeS] at h
    split at h
    · rename_i hr
      cases h
      obtain ⟨hr, ht⟩ := hr
      refine ⟨0, ?_⟩
      have g36 : fOf [p36, p22, p37, p38] 36 = fitsS := rfl
      have g22 : fOf [p36, p22, p37, p38] 22 = checkS := rfl
      have g37 : fOf [p36, p22, p37, p38] 37 = oppS := rfl
      have g38 : fOf [p36, p22, p37, p38] 38 = left2S := rfl
      have hf : fitsS [op, k, 1] = some [fits2 op k] := rfl
      have hc1 : checkS [k, a, b] = some [checkE k a b] := if_pos ⟨hr.1, hr.2.1⟩
      have hc2 : checkS [k, c, d] = some [checkE k c d] := if_pos ⟨hr.2.2.1, hr.2.2.2⟩
      by_cases hop : 11 ≤ op ∧ op ≤ 16
      · have ho : oppS [op] = some [opp op] := if_pos hop
        have hoo : 11 ≤ opp op ∧ opp op ≤ 16 := by unfold opp; repeat' split <;> omega
        have hl0 : left2S [opp op, a, b, c, d] = some (lf2 (opp op) a b c d) := if_pos ⟨hoo, hr⟩
        have hl1 : left2S [op, a, b, c, d] = some (lf2 op a b c d) := if_pos ⟨hop, hr⟩
        have n1 : ¬ op < 11 := by omega
        have n2 : ¬ 16 < op := by omega
        by_cases hfi : fits2 op k = 0
        · have hna : ¬ aOk op k a b c d := by
            intro ha
            unfold fits2 at hfi
            unfold aOk okR at ha
            split at hfi <;> omega
          simp [t12, T.den, B.den, A.den, E.den, Cm.den, g36, hf, n1, n2, hfi, assumeV, hna]
        · by_cases h1 : okR k a b
          · by_cases h2 : okR k c d
            · have ha : aOk op k a b c d := by
                unfold fits2 at hfi
                unfold aOk
                refine ⟨hop.1, hop.2, ?_, h1, h2⟩
                split at hfi <;> omega
              have e1 : checkE k a b = 0 := if_pos h1
              have e2 : checkE k c d = 0 := if_pos h2
              rcases ht with rfl | rfl
              · obtain ⟨p, q, r, s, u, hq, hu⟩ := lf2_form (opp op) a b c d
                rw [hq] at hl0
                simp [t12, T.den, B.den, A.den, E.den, Cm.den, g36, g22, g37, g38, hf, n1, n2, hfi, hc1, hc2, e1, e2, ho, hl0, assumeV, ha, hq, fin6]
                rcases hu with rfl | rfl <;> simp
              · obtain ⟨p, q, r, s, u, hq, hu⟩ := lf2_form op a b c d
                rw [hq] at hl1
                simp [t12, T.den, B.den, A.den, E.den, Cm.den, g36, g22, g37, g38, hf, n1, n2, hfi, hc1, hc2, e1, e2, hl1, assumeV, ha, hq, fin6]
                rcases hu with rfl | rfl <;> simp
            · have hna : ¬ aOk op k a b c d := fun h => h2 h.2.2.2.2
              have e1 : checkE k a b = 0 := if_pos h1
              have e2 : checkE k c d = 2 := if_neg h2
              simp [t12, T.den, B.den, A.den, E.den, Cm.den, g36, g22, hf, n1, n2, hfi, hc1, hc2, e1, e2, assumeV, hna]
          · have hna : ¬ aOk op k a b c d := fun h => h1 h.2.2.2.1
            have e1 : checkE k a b = 2 := if_neg h1
            simp [t12, T.den, B.den, A.den, E.den, Cm.den, g36, g22, hf, n1, n2, hfi, hc1, e1, assumeV, hna]
      · have hna : ¬ aOk op k a b c d := fun h => hop ⟨h.1, h.2.1⟩
        have n : op < 11 ∨ 16 < op := by omega
        simp [t12, T.den, B.den, A.den, E.den, Cm.den, n, assumeV, hna]
        intro h1 h2
        exact absurd ⟨h1, h2⟩ hop
    · cases h
end Go.SXR

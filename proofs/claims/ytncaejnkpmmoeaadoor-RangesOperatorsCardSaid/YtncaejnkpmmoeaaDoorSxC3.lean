/- RANGES: shifts, bits and comparisons of the reference; Unary of the reference. -/
import Derived.Test.YtncaejnkpmmoeaaDoorSxC2
set_option linter.unusedVariables false
set_option linter.unusedSimpArgs false
namespace Go.SXR
open Go Go.SX Go.Proofs Go.RowKit

/-! ### Shifts -/
noncomputable def movedR (op k a b c d : Int) : List Int := if shSome k c d then br k (q4 (opF op) a b (max c 0) (min d (topK k))).1 (q4 (opF op) a b (max c 0) (min d (topK k))).2 ++ [1, 0, shU k c d] else [0, 0, 0, 0, shU k c d]
noncomputable def movedS : List Int → Option (List Int)
  | [op, k, a, b, c, d] => if (op = 6 ∨ op = 7) ∧ (k = 1 ∨ k = 2) ∧ in4 a b c d ∧ c ≤ d then some (movedR op k a b c d) else none
  | _ => none
theorem meet_top {c d t : Int} (hc : inI c) (hd : inI d) (hcd : c ≤ d) (ht : 0 ≤ t ∧ t ≤ 63) : meetS [c, d, 0, t] = some (if max c 0 ≤ min d t then [max c 0, min d t, 1, 0] else [0, 0, 0, 0]) := by
  have e : meetS [c, d, 0, t] = some [meetL c d 0 t, meetH c d 0 t, meetB c d 0 t, pairE c d 0 t] := if_pos ⟨hc, hd, by unfold inI; omega, by unfold inI; omega⟩
  rw [e]
  unfold meetL meetH meetB pairE
  by_cases h : max c 0 ≤ min d t
  · rw [if_pos h, if_neg (by omega), if_neg (by omega), if_neg (by omega), if_neg (by omega)]
  · rw [if_neg h, if_pos (by omega), if_pos (by omega), if_pos (by omega), if_neg (by omega)]
def sg49 : Sig := ⟨[I, I, (.agg [.int .i64, .int .i64]), (.agg [.int .i64, .int .i64])], [(.agg [.int .i64, .int .i64, .bool, .bool, .bool])]⟩
def t49 : T := (.br (.cmp .eq (.v 1) (.n 2)) (.call 25 [(.v 4), (.v 5), (.n 0), (.n 7)] 4 (.br (.cmp .eq (.v 8) (.n 0)) (.lt (.sel (.or (.cmp .lt (.v 4) (.n 0)) (.cmp .lt (.n 7) (.v 5))) (.n 1) (.n 0)) (.ret [(.n 0), (.n 0), (.n 0), (.n 0), (.v 10)])) (.call 47 [(.v 0), (.v 2), (.v 3), (.v 6), (.v 7)] 3 (.lt (.sel (.not (.cmp .eq (.v 12) (.n 0))) (.n 1) (.n 0)) (.call 46 [(.v 10), (.v 11), (.v 13), (.v 1)] 2 (.lt (.sel (.or (.cmp .lt (.v 4) (.n 0)) (.cmp .lt (.n 7) (.v 5))) (.n 1) (.n 0)) (.ret [(.v 14), (.v 15), (.n 1), (.n 0), (.v 16)]))))))) (.call 25 [(.v 4), (.v 5), (.n 0), (.n 63)] 4 (.br (.cmp .eq (.v 8) (.n 0)) (.lt (.sel (.or (.cmp .lt (.v 4) (.n 0)) (.cmp .lt (.n 63) (.v 5))) (.n 1) (.n 0)) (.ret [(.n 0), (.n 0), (.n 0), (.n 0), (.v 10)])) (.call 47 [(.v 0), (.v 2), (.v 3), (.v 6), (.v 7)] 3 (.lt (.sel (.not (.cmp .eq (.v 12) (.n 0))) (.n 1) (.n 0)) (.call 46 [(.v 10), (.v 11), (.v 13), (.v 1)] 2 (.lt (.sel (.or (.cmp .lt (.v 4) (.n 0)) (.cmp .lt (.n 63) (.v 5))) (.n 1) (.n 0)) (.ret [(.v 14), (.v 15), (.n 1), (.n 0), (.v 16)]))))))))
theorem q49 : sxFunc (Cf [p25, p47, p46] unAll) 200 49 sg49 = t49 := by kernel_rfl
theorem c49 {F : Nat → List Int → Option (List Int)} {op k a b c d : Int} (g25 : F 25 = meetS) (g47 : F 47 = cornersS) (g46 : F 46 = broughtS) (hop : op = 6 ∨ op = 7) (hk : k = 1 ∨ k = 2) (hr : in4 a b c d) (hcd : c ≤ d) : t49.den F 0 [op, k, a, b, c, d] = some (0, movedR op k a b c d) := by
  obtain ⟨ha, hb, hc, hd⟩ := hr
  unfold movedR
  have m := fun t ht => meet_top (t := t) hc hd hcd ht
  rcases hk with rfl | rfl
  · have et : topK 1 = 63 := by decide
    have m1 := m 63 (by omega)
    rw [← g25] at m1
    by_cases hs : shSome 1 c d
    · have hs' : max c 0 ≤ min d 63 := by unfold shSome at hs; rwa [et] at hs
      rw [if_pos hs'] at m1
      rw [if_pos hs, et]
      have hok : corOk op a b (max c 0) (min d 63) := ⟨⟨ha, hb, by unfold inI at *; omega, by unfold inI at *; omega⟩, by omega⟩
      obtain ⟨lo, hi, ov, e1, e2, e3⟩ := brought_cor (k := 1) (f := opF op) (a := a) (b := b) (c := max c 0) (d := min d 63) (.inl rfl)
      have e4 : F 47 [op, a, b, max c 0, min d 63] = some [lo, hi, ov] := by rw [g47, ← e1]; exact if_pos hok
      rw [← g46] at e3
      have e5 : (if ov = 0 then (0 : Int) else 1) = ov := by rcases e2 with rfl | rfl <;> rfl
      have e6 : (if c < 0 ∨ 63 < d then (1 : Int) else 0) = shU 1 c d := rfl
      have e7 : br 1 (q4 (opF op) a b (max c 0) (min d 63)).1 (q4 (opF op) a b (max c 0) (min d 63)).2 = br 1 (lo4 (opF op a (max c 0)) (opF op a (min d 63)) (opF op b (max c 0)) (opF op b (min d 63))) (hi4 (opF op a (max c 0)) (opF op a (min d 63)) (opF op b (max c 0)) (opF op b (min d 63))) := rfl
      rw [e7]
      unfold br at e3 ⊢
      simp [t49, T.den, B.den, A.den, E.den, Cm.den, m1, e4, e5, e3, e6]
    · have hs' : ¬ max c 0 ≤ min d 63 := by unfold shSome at hs; rwa [et] at hs
      rw [if_neg hs'] at m1
      rw [if_neg hs]
      have e6 : (if c < 0 ∨ 63 < d then (1 : Int) else 0) = shU 1 c d := rfl
      simp [t49, T.den, B.den, A.den, E.den, Cm.den, m1, e6]
  · have et : topK 2 = 7 := by decide
    have m1 := m 7 (by omega)
    rw [← g25] at m1
    by_cases hs : shSome 2 c d
    · have hs' : max c 0 ≤ min d 7 := by unfold shSome at hs; rwa [et] at hs
      rw [if_pos hs'] at m1
      rw [if_pos hs, et]
      have hok : corOk op a b (max c 0) (min d 7) := ⟨⟨ha, hb, by unfold inI at *; omega, by unfold inI at *; omega⟩, by omega⟩
      obtain ⟨lo, hi, ov, e1, e2, e3⟩ := brought_cor (k := 2) (f := opF op) (a := a) (b := b) (c := max c 0) (d := min d 7) (.inr rfl)
      have e4 : F 47 [op, a, b, max c 0, min d 7] = some [lo, hi, ov] := by rw [g47, ← e1]; exact if_pos hok
      rw [← g46] at e3
      have e5 : (if ov = 0 then (0 : Int) else 1) = ov := by rcases e2 with rfl | rfl <;> rfl
      have e6 : (if c < 0 ∨ 7 < d then (1 : Int) else 0) = shU 2 c d := rfl
      have e7 : br 2 (q4 (opF op) a b (max c 0) (min d 7)).1 (q4 (opF op) a b (max c 0) (min d 7)).2 = br 2 (lo4 (opF op a (max c 0)) (opF op a (min d 7)) (opF op b (max c 0)) (opF op b (min d 7))) (hi4 (opF op a (max c 0)) (opF op a (min d 7)) (opF op b (max c 0)) (opF op b (min d 7))) := rfl
      rw [e7]
      unfold br at e3 ⊢
      simp [t49, T.den, B.den, A.den, E.den, Cm.den, m1, e4, e5, e3, e6]
    · have hs' : ¬ max c 0 ≤ min d 7 := by unfold shSome at hs; rwa [et] at hs
      rw [if_neg hs'] at m1
      rw [if_neg hs]
      have e6 : (if c < 0 ∨ 7 < d then (1 : Int) else 0) = shU 2 c d := rfl
      simp [t49, T.den, B.den, A.den, E.den, Cm.den, m1, e6]
noncomputable def p49 : Sp := (49, sg49, movedS)
theorem e49 : Ent p49 := ent_of unAll (l := [p25, p47, p46]) (ents_cons e25 (ents_cons e47 (ents_cons e46 ents_nil))) q49 fun args rs h hl => by
  match args, hl with
  | [op, k, a, b, c, d], _ =>
    simp only [movedS] at h
    split at h
    · rename_i hr
      cases h
      exact ⟨0, c49 rfl rfl rfl hr.1 hr.2.1 hr.2.2.1 hr.2.2.2⟩
    · cases h

/-! ### Bits -/
theorem top_loop {F : Nat → List Int → Option (List Int)} {m : Int} {pre : List Int} {f : List Int → Option (Nat × List Int)} {r : Int → List Int} (hm0 : 0 ≤ m) (hm : m ≤ 9223372036854775807) (hg : ∀ i : Int, 0 ≤ i → i ≤ 62 → p2 i - 1 < m → f [p2 i - 1] = some (1, [w64 (w64 (2 * (p2 i - 1)) + 1)])) (he : ∀ t : Int, ¬ t < m → f [t] = some (0, r t)) :
    iter 65 f 1 [0] = some (0, r (topV m)) := by
  have hl := lenV_le hm0 hm
  have hstep : ∀ i : Int, 0 ≤ i → i ≤ 62 → w64 (w64 (2 * (p2 i - 1)) + 1) = p2 (i + 1) - 1 := by
    intro i h0 h1
    have g1 := p2_pos i
    have g2 : p2 i ≤ 4611686018427387904 := by
      have := p2_mono h1
      have e : p2 62 = 4611686018427387904 := by decide
      omega
    have w1 : w64 (2 * (p2 i - 1)) = 2 * (p2 i - 1) := w64_id (by unfold inI; omega)
    have w2 : w64 (2 * (p2 i - 1) + 1) = 2 * (p2 i - 1) + 1 := w64_id (by unfold inI; omega)
    rw [p2_succ h0, w1, w2]
    omega
  have key : ∀ (n : Nat) (i : Int) (K : Nat), 0 ≤ i → i + n = lenV m → n + 1 ≤ K → iter K f 1 [p2 i - 1] = some (0, r (topV m)) := by
    intro n
    induction n with
    | zero =>
      intro i K h0 hi hK
      obtain ⟨K', rfl⟩ : ∃ K', K = K' + 1 := ⟨K - 1, by omega⟩
      have : i = lenV m := by omega
      subst this
      refine iter_stop (he _ ?_) (by decide)
      by_cases h : m ≤ 0
      · have := p2_pos (lenV m); omega
      · have := (len_spec (show 0 < m by omega)).2.2; omega
    | succ n ih =>
      intro i K h0 hi hK
      obtain ⟨K', rfl⟩ : ∃ K', K = K' + 1 := ⟨K - 1, by omega⟩
      have hpos : 0 < m := by
        by_cases h : m ≤ 0
        · have : lenV m = 0 := if_pos h
          omega
        · omega
      have h3 := (len_spec hpos).2.1
      have h4 := p2_mono (show i ≤ lenV m - 1 by omega)
      have e := hg i h0 (by omega) (by omega)
      rw [hstep i h0 (by omega)] at e
      exact (iter_again e).trans (ih (i + 1) K' (by omega) (by omega) (by omega))
  have h0 : p2 0 - 1 = 0 := by decide
  have := key (lenV m).toNat 0 65 (by omega) (by omega) (by omega)
  rwa [h0] at this
def sg50 : Sig := ⟨[I, I, RG, RG], [RG]⟩
def t50x81 : T := (.br (.cmp .eq (.v 2) (.v 3)) (.br (.and (.cmp .eq (.v 2) (.v 3)) (.cmp .eq (.v 4) (.v 5))) (.lt (.band .i64 (.v 2) (.v 4)) (.ret [(.v 6), (.v 6)])) (.br (.and (.not (.cmp .lt (.v 2) (.n 0))) (.not (.cmp .lt (.v 4) (.n 0)))) (.lt (.mn (.v 3) (.v 5)) (.ret [(.n 0), (.v 6)])) (.br (.not (.cmp .lt (.v 2) (.n 0))) (.ret [(.n 0), (.v 3)]) (.br (.not (.cmp .lt (.v 4) (.n 0))) (.ret [(.n 0), (.v 5)]) (.ret [(.n (-9223372036854775808)), (.n 9223372036854775807)]))))) (.br (.and (.not (.cmp .lt (.v 2) (.n 0))) (.not (.cmp .lt (.v 4) (.n 0)))) (.lt (.mn (.v 3) (.v 5)) (.ret [(.n 0), (.v 6)])) (.br (.not (.cmp .lt (.v 2) (.n 0))) (.ret [(.n 0), (.v 3)]) (.br (.not (.cmp .lt (.v 4) (.n 0))) (.ret [(.n 0), (.v 5)]) (.ret [(.n (-9223372036854775808)), (.n 9223372036854775807)])))))
theorem q50x81 : sxRun (Cf [] (fun g => !(List.contains [50] g))) 200 50 sg50 ((mkS 0 sg50.ins).map (subst [(0, 8), (1, 1)])) [] = t50x81 := by kernel_rfl
def t50x82 : T := (.br (.cmp .eq (.v 2) (.v 3)) (.br (.and (.cmp .eq (.v 2) (.v 3)) (.cmp .eq (.v 4) (.v 5))) (.lt (.band .i64 (.v 2) (.v 4)) (.ret [(.v 6), (.v 6)])) (.br (.and (.not (.cmp .lt (.v 2) (.n 0))) (.not (.cmp .lt (.v 4) (.n 0)))) (.lt (.mn (.v 3) (.v 5)) (.ret [(.n 0), (.v 6)])) (.br (.not (.cmp .lt (.v 2) (.n 0))) (.ret [(.n 0), (.v 3)]) (.br (.not (.cmp .lt (.v 4) (.n 0))) (.ret [(.n 0), (.v 5)]) (.ret [(.n 0), (.n 255)]))))) (.br (.and (.not (.cmp .lt (.v 2) (.n 0))) (.not (.cmp .lt (.v 4) (.n 0)))) (.lt (.mn (.v 3) (.v 5)) (.ret [(.n 0), (.v 6)])) (.br (.not (.cmp .lt (.v 2) (.n 0))) (.ret [(.n 0), (.v 3)]) (.br (.not (.cmp .lt (.v 4) (.n 0))) (.ret [(.n 0), (.v 5)]) (.ret [(.n 0), (.n 255)])))))
theorem q50x82 : sxRun (Cf [] (fun g => !(List.contains [50] g))) 200 50 sg50 ((mkS 0 sg50.ins).map (subst [(0, 8), (1, 2)])) [] = t50x82 := by kernel_rfl
def t50x91 : T := (.br (.cmp .eq (.v 2) (.v 3)) (.br (.and (.cmp .eq (.v 2) (.v 3)) (.cmp .eq (.v 4) (.v 5))) (.lt (.band .i64 (.v 2) (.v 4)) (.lt (.bxor .i64 (.v 2) (.v 4)) (.ret [(.v 7), (.v 7)]))) (.br (.or (.cmp .lt (.v 2) (.n 0)) (.cmp .lt (.v 4) (.n 0))) (.ret [(.n (-9223372036854775808)), (.n 9223372036854775807)]) (.loop 1 [(.n 0)] (.br (.or (.cmp .lt (.v 6) (.v 3)) (.cmp .lt (.v 6) (.v 5))) (.lt (.mul .i64 (.n 2) (.v 6)) (.lt (.add .i64 (.v 7) (.n 1)) (.again 1 [(.v 8)]))) (.out 1 (.ret [(.n 0), (.v 6)])))))) (.br (.or (.cmp .lt (.v 2) (.n 0)) (.cmp .lt (.v 4) (.n 0))) (.ret [(.n (-9223372036854775808)), (.n 9223372036854775807)]) (.loop 1 [(.n 0)] (.br (.or (.cmp .lt (.v 6) (.v 3)) (.cmp .lt (.v 6) (.v 5))) (.lt (.mul .i64 (.n 2) (.v 6)) (.lt (.add .i64 (.v 7) (.n 1)) (.again 1 [(.v 8)]))) (.out 1 (.ret [(.n 0), (.v 6)]))))))
theorem q50x91 : sxRun (Cf [] (fun g => !(List.contains [50] g))) 200 50 sg50 ((mkS 0 sg50.ins).map (subst [(0, 9), (1, 1)])) [] = t50x91 := by kernel_rfl
def t50x92 : T := (.br (.cmp .eq (.v 2) (.v 3)) (.br (.and (.cmp .eq (.v 2) (.v 3)) (.cmp .eq (.v 4) (.v 5))) (.lt (.band .i64 (.v 2) (.v 4)) (.lt (.bxor .i64 (.v 2) (.v 4)) (.ret [(.v 7), (.v 7)]))) (.br (.or (.cmp .lt (.v 2) (.n 0)) (.cmp .lt (.v 4) (.n 0))) (.ret [(.n 0), (.n 255)]) (.loop 1 [(.n 0)] (.br (.or (.cmp .lt (.v 6) (.v 3)) (.cmp .lt (.v 6) (.v 5))) (.lt (.mul .i64 (.n 2) (.v 6)) (.lt (.add .i64 (.v 7) (.n 1)) (.again 1 [(.v 8)]))) (.out 1 (.ret [(.n 0), (.v 6)])))))) (.br (.or (.cmp .lt (.v 2) (.n 0)) (.cmp .lt (.v 4) (.n 0))) (.ret [(.n 0), (.n 255)]) (.loop 1 [(.n 0)] (.br (.or (.cmp .lt (.v 6) (.v 3)) (.cmp .lt (.v 6) (.v 5))) (.lt (.mul .i64 (.n 2) (.v 6)) (.lt (.add .i64 (.v 7) (.n 1)) (.again 1 [(.v 8)]))) (.out 1 (.ret [(.n 0), (.v 6)]))))))
theorem q50x92 : sxRun (Cf [] (fun g => !(List.contains [50] g))) 200 50 sg50 ((mkS 0 sg50.ins).map (subst [(0, 9), (1, 2)])) [] = t50x92 := by kernel_rfl
def t50x101 : T := (.br (.cmp .eq (.v 2) (.v 3)) (.br (.and (.cmp .eq (.v 2) (.v 3)) (.cmp .eq (.v 4) (.v 5))) (.lt (.band .i64 (.v 2) (.v 4)) (.lt (.bor .i64 (.v 2) (.v 4)) (.ret [(.v 7), (.v 7)]))) (.br (.or (.cmp .lt (.v 2) (.n 0)) (.cmp .lt (.v 4) (.n 0))) (.ret [(.n (-9223372036854775808)), (.n 9223372036854775807)]) (.loop 1 [(.n 0)] (.br (.or (.cmp .lt (.v 6) (.v 3)) (.cmp .lt (.v 6) (.v 5))) (.lt (.mul .i64 (.n 2) (.v 6)) (.lt (.add .i64 (.v 7) (.n 1)) (.again 1 [(.v 8)]))) (.out 1 (.lt (.mx (.v 2) (.v 4)) (.ret [(.v 7), (.v 6)]))))))) (.br (.or (.cmp .lt (.v 2) (.n 0)) (.cmp .lt (.v 4) (.n 0))) (.ret [(.n (-9223372036854775808)), (.n 9223372036854775807)]) (.loop 1 [(.n 0)] (.br (.or (.cmp .lt (.v 6) (.v 3)) (.cmp .lt (.v 6) (.v 5))) (.lt (.mul .i64 (.n 2) (.v 6)) (.lt (.add .i64 (.v 7) (.n 1)) (.again 1 [(.v 8)]))) (.out 1 (.lt (.mx (.v 2) (.v 4)) (.ret [(.v 7), (.v 6)])))))))
theorem q50x101 : sxRun (Cf [] (fun g => !(List.contains [50] g))) 200 50 sg50 ((mkS 0 sg50.ins).map (subst [(0, 10), (1, 1)])) [] = t50x101 := by kernel_rfl
def t50x102 : T := (.br (.cmp .eq (.v 2) (.v 3)) (.br (.and (.cmp .eq (.v 2) (.v 3)) (.cmp .eq (.v 4) (.v 5))) (.lt (.band .i64 (.v 2) (.v 4)) (.lt (.bor .i64 (.v 2) (.v 4)) (.ret [(.v 7), (.v 7)]))) (.br (.or (.cmp .lt (.v 2) (.n 0)) (.cmp .lt (.v 4) (.n 0))) (.ret [(.n 0), (.n 255)]) (.loop 1 [(.n 0)] (.br (.or (.cmp .lt (.v 6) (.v 3)) (.cmp .lt (.v 6) (.v 5))) (.lt (.mul .i64 (.n 2) (.v 6)) (.lt (.add .i64 (.v 7) (.n 1)) (.again 1 [(.v 8)]))) (.out 1 (.lt (.mx (.v 2) (.v 4)) (.ret [(.v 7), (.v 6)]))))))) (.br (.or (.cmp .lt (.v 2) (.n 0)) (.cmp .lt (.v 4) (.n 0))) (.ret [(.n 0), (.n 255)]) (.loop 1 [(.n 0)] (.br (.or (.cmp .lt (.v 6) (.v 3)) (.cmp .lt (.v 6) (.v 5))) (.lt (.mul .i64 (.n 2) (.v 6)) (.lt (.add .i64 (.v 7) (.n 1)) (.again 1 [(.v 8)]))) (.out 1 (.lt (.mx (.v 2) (.v 4)) (.ret [(.v 7), (.v 6)])))))))
theorem q50x102 : sxRun (Cf [] (fun g => !(List.contains [50] g))) 200 50 sg50 ((mkS 0 sg50.ins).map (subst [(0, 10), (1, 2)])) [] = t50x102 := by kernel_rfl
theorem c50x81 {F : Nat → List Int → Option (List Int)} {a b c d : Int} : t50x81.den F 65 [8, 1, a, b, c, d] = some (0, andR 1 a b c d) := by
  have b0 : ∀ x y, bitsOf .i64 (fun a b => a &&& b) x y = andB x y := fun _ _ => rfl
  unfold andR
  by_cases h1 : a = b
  · subst h1
    by_cases h2 : c = d
    · subst h2; simp [t50x81, T.den, B.den, A.den, E.den, Cm.den, b0]
    · by_cases p : 0 ≤ a <;> by_cases q : 0 ≤ c <;> simp [t50x81, T.den, B.den, A.den, E.den, Cm.den, h2, p, q, mn_eq, fullL, fullH]
  · by_cases p : 0 ≤ a <;> by_cases q : 0 ≤ c <;> simp [t50x81, T.den, B.den, A.den, E.den, Cm.den, h1, p, q, mn_eq, fullL, fullH]
theorem c50x82 {F : Nat → List Int → Option (List Int)} {a b c d : Int} : t50x82.den F 65 [8, 2, a, b, c, d] = some (0, andR 2 a b c d) := by
  have b0 : ∀ x y, bitsOf .i64 (fun a b => a &&& b) x y = andB x y := fun _ _ => rfl
  unfold andR
  by_cases h1 : a = b
  · subst h1
    by_cases h2 : c = d
    · subst h2; simp [t50x82, T.den, B.den, A.den, E.den, Cm.den, b0]
    · by_cases p : 0 ≤ a <;> by_cases q : 0 ≤ c <;> simp [t50x82, T.den, B.den, A.den, E.den, Cm.den, h2, p, q, mn_eq, fullL, fullH]
  · by_cases p : 0 ≤ a <;> by_cases q : 0 ≤ c <;> simp [t50x82, T.den, B.den, A.den, E.den, Cm.den, h1, p, q, mn_eq, fullL, fullH]
def lb9 : T := (.br (.or (.cmp .lt (.v 6) (.v 3)) (.cmp .lt (.v 6) (.v 5))) (.lt (.mul .i64 (.n 2) (.v 6)) (.lt (.add .i64 (.v 7) (.n 1)) (.again 1 [(.v 8)]))) (.out 1 (.ret [(.n 0), (.v 6)])))
theorem key9_1 {F : Nat → List Int → Option (List Int)} {a b c d : Int} (ha : 0 ≤ a) (hc : 0 ≤ c) (hab : a ≤ b) (hcd : c ≤ d) (hb : inI b) (hd : inI d) : iter 65 (fun s => T.den F 65 lb9 (9 :: 1 :: a :: b :: c :: d :: s)) 1 [0] = some (0, [0, topV (max b d)]) := by
  refine top_loop (F := F) (pre := []) (m := max b d) (r := fun t => [0, t]) (by omega) (by unfold inI at *; omega) (fun i h0 h1 h2 => ?_) (fun t ht => ?_)
  · have hlt : p2 i - 1 < b ∨ p2 i - 1 < d := by omega
    simp [lb9, T.den, B.den, A.den, E.den, Cm.den, wrap64, hlt]
  · have h1 : ¬ (t < b ∨ t < d) := by omega
    simp [lb9, T.den, B.den, A.den, E.den, Cm.den, h1, mx_eq]
theorem c50x91 {F : Nat → List Int → Option (List Int)} {a b c d : Int} (hb : inI b) (hd : inI d) (hab : a ≤ b) (hcd : c ≤ d) : t50x91.den F 65 [9, 1, a, b, c, d] = some (0, xorR 1 a b c d) := by
  have e : t50x91 = (.br (.cmp .eq (.v 2) (.v 3)) (.br (.and (.cmp .eq (.v 2) (.v 3)) (.cmp .eq (.v 4) (.v 5))) (.lt (.band .i64 (.v 2) (.v 4)) (.lt (.bxor .i64 (.v 2) (.v 4)) (.ret [(.v 7), (.v 7)]))) (.br (.or (.cmp .lt (.v 2) (.n 0)) (.cmp .lt (.v 4) (.n 0))) (.ret [(.n (-9223372036854775808)), (.n 9223372036854775807)]) (.loop 1 [(.n 0)] lb9))) (.br (.or (.cmp .lt (.v 2) (.n 0)) (.cmp .lt (.v 4) (.n 0))) (.ret [(.n (-9223372036854775808)), (.n 9223372036854775807)]) (.loop 1 [(.n 0)] lb9))) := rfl
  rw [e]
  have b0 : ∀ x y, bitsOf .i64 (fun a b => a ^^^ b) x y = xorB x y := fun _ _ => rfl
  unfold xorR
  have kk : 0 ≤ a → 0 ≤ c → iter 65 (fun s => T.den F 65 lb9 (9 :: 1 :: a :: b :: c :: d :: s)) 1 [0] = some (0, [0, topV (max b d)]) := fun g1 g2 => key9_1 g1 g2 hab hcd hb hd
  by_cases h1 : a = b
  · subst h1
    by_cases h2 : c = d
    · subst h2; simp [T.den, B.den, A.den, E.den, Cm.den, b0]
    · by_cases p : 0 ≤ a
      · by_cases q : 0 ≤ c
        · simp [T.den, B.den, A.den, E.den, Cm.den, h2, p, q, kk p q, show ¬ (a < 0 ∨ c < 0) by omega]
        · simp [T.den, B.den, A.den, E.den, Cm.den, h2, p, q, fullL, fullH, show a < 0 ∨ c < 0 by omega]
      · simp [T.den, B.den, A.den, E.den, Cm.den, h2, p, fullL, fullH, show a < 0 ∨ c < 0 by omega]
  · by_cases p : 0 ≤ a
    · by_cases q : 0 ≤ c
      · simp [T.den, B.den, A.den, E.den, Cm.den, h1, p, q, kk p q, show ¬ (a < 0 ∨ c < 0) by omega]
      · simp [T.den, B.den, A.den, E.den, Cm.den, h1, p, q, fullL, fullH, show a < 0 ∨ c < 0 by omega]
    · simp [T.den, B.den, A.den, E.den, Cm.den, h1, p, fullL, fullH, show a < 0 ∨ c < 0 by omega]
theorem key9_2 {F : Nat → List Int → Option (List Int)} {a b c d : Int} (ha : 0 ≤ a) (hc : 0 ≤ c) (hab : a ≤ b) (hcd : c ≤ d) (hb : inI b) (hd : inI d) : iter 65 (fun s => T.den F 65 lb9 (9 :: 2 :: a :: b :: c :: d :: s)) 1 [0] = some (0, [0, topV (max b d)]) := by
  refine top_loop (F := F) (pre := []) (m := max b d) (r := fun t => [0, t]) (by omega) (by unfold inI at *; omega) (fun i h0 h1 h2 => ?_) (fun t ht => ?_)
  · have hlt : p2 i - 1 < b ∨ p2 i - 1 < d := by omega
    simp [lb9, T.den, B.den, A.den, E.den, Cm.den, wrap64, hlt]
  · have h1 : ¬ (t < b ∨ t < d) := by omega
    simp [lb9, T.den, B.den, A.den, E.den, Cm.den, h1, mx_eq]
theorem c50x92 {F : Nat → List Int → Option (List Int)} {a b c d : Int} (hb : inI b) (hd : inI d) (hab : a ≤ b) (hcd : c ≤ d) : t50x92.den F 65 [9, 2, a, b, c, d] = some (0, xorR 2 a b c d) := by
  have e : t50x92 = (.br (.cmp .eq (.v 2) (.v 3)) (.br (.and (.cmp .eq (.v 2) (.v 3)) (.cmp .eq (.v 4) (.v 5))) (.lt (.band .i64 (.v 2) (.v 4)) (.lt (.bxor .i64 (.v 2) (.v 4)) (.ret [(.v 7), (.v 7)]))) (.br (.or (.cmp .lt (.v 2) (.n 0)) (.cmp .lt (.v 4) (.n 0))) (.ret [(.n 0), (.n 255)]) (.loop 1 [(.n 0)] lb9))) (.br (.or (.cmp .lt (.v 2) (.n 0)) (.cmp .lt (.v 4) (.n 0))) (.ret [(.n 0), (.n 255)]) (.loop 1 [(.n 0)] lb9))) := rfl
  rw [e]
  have b0 : ∀ x y, bitsOf .i64 (fun a b => a ^^^ b) x y = xorB x y := fun _ _ => rfl
  unfold xorR
  have kk : 0 ≤ a → 0 ≤ c → iter 65 (fun s => T.den F 65 lb9 (9 :: 2 :: a :: b :: c :: d :: s)) 1 [0] = some (0, [0, topV (max b d)]) := fun g1 g2 => key9_2 g1 g2 hab hcd hb hd
  by_cases h1 : a = b
  · subst h1
    by_cases h2 : c = d
    · subst h2; simp [T.den, B.den, A.den, E.den, Cm.den, b0]
    · by_cases p : 0 ≤ a
      · by_cases q : 0 ≤ c
        · simp [T.den, B.den, A.den, E.den, Cm.den, h2, p, q, kk p q, show ¬ (a < 0 ∨ c < 0) by omega]
        · simp [T.den, B.den, A.den, E.den, Cm.den, h2, p, q, fullL, fullH, show a < 0 ∨ c < 0 by omega]
      · simp [T.den, B.den, A.den, E.den, Cm.den, h2, p, fullL, fullH, show a < 0 ∨ c < 0 by omega]
  · by_cases p : 0 ≤ a
    · by_cases q : 0 ≤ c
      · simp [T.den, B.den, A.den, E.den, Cm.den, h1, p, q, kk p q, show ¬ (a < 0 ∨ c < 0) by omega]
      · simp [T.den, B.den, A.den, E.den, Cm.den, h1, p, q, fullL, fullH, show a < 0 ∨ c < 0 by omega]
    · simp [T.den, B.den, A.den, E.den, Cm.den, h1, p, fullL, fullH, show a < 0 ∨ c < 0 by omega]
def lb10 : T := (.br (.or (.cmp .lt (.v 6) (.v 3)) (.cmp .lt (.v 6) (.v 5))) (.lt (.mul .i64 (.n 2) (.v 6)) (.lt (.add .i64 (.v 7) (.n 1)) (.again 1 [(.v 8)]))) (.out 1 (.lt (.mx (.v 2) (.v 4)) (.ret [(.v 7), (.v 6)]))))
theorem key10_1 {F : Nat → List Int → Option (List Int)} {a b c d : Int} (ha : 0 ≤ a) (hc : 0 ≤ c) (hab : a ≤ b) (hcd : c ≤ d) (hb : inI b) (hd : inI d) : iter 65 (fun s => T.den F 65 lb10 (10 :: 1 :: a :: b :: c :: d :: s)) 1 [0] = some (0, [max a c, topV (max b d)]) := by
  refine top_loop (F := F) (pre := []) (m := max b d) (r := fun t => [max a c, t]) (by omega) (by unfold inI at *; omega) (fun i h0 h1 h2 => ?_) (fun t ht => ?_)
  · have hlt : p2 i - 1 < b ∨ p2 i - 1 < d := by omega
    simp [lb10, T.den, B.den, A.den, E.den, Cm.den, wrap64, hlt]
  · have h1 : ¬ (t < b ∨ t < d) := by omega
    simp [lb10, T.den, B.den, A.den, E.den, Cm.den, h1, mx_eq]
theorem c50x101 {F : Nat → List Int → Option (List Int)} {a b c d : Int} (hb : inI b) (hd : inI d) (hab : a ≤ b) (hcd : c ≤ d) : t50x101.den F 65 [10, 1, a, b, c, d] = some (0, orR 1 a b c d) := by
  have e : t50x101 = (.br (.cmp .eq (.v 2) (.v 3)) (.br (.and (.cmp .eq (.v 2) (.v 3)) (.cmp .eq (.v 4) (.v 5))) (.lt (.band .i64 (.v 2) (.v 4)) (.lt (.bor .i64 (.v 2) (.v 4)) (.ret [(.v 7), (.v 7)]))) (.br (.or (.cmp .lt (.v 2) (.n 0)) (.cmp .lt (.v 4) (.n 0))) (.ret [(.n (-9223372036854775808)), (.n 9223372036854775807)]) (.loop 1 [(.n 0)] lb10))) (.br (.or (.cmp .lt (.v 2) (.n 0)) (.cmp .lt (.v 4) (.n 0))) (.ret [(.n (-9223372036854775808)), (.n 9223372036854775807)]) (.loop 1 [(.n 0)] lb10))) := rfl
  rw [e]
  have b0 : ∀ x y, bitsOf .i64 (fun a b => a ||| b) x y = orB x y := fun _ _ => rfl
  unfold orR
  have kk : 0 ≤ a → 0 ≤ c → iter 65 (fun s => T.den F 65 lb10 (10 :: 1 :: a :: b :: c :: d :: s)) 1 [0] = some (0, [max a c, topV (max b d)]) := fun g1 g2 => key10_1 g1 g2 hab hcd hb hd
  by_cases h1 : a = b
  · subst h1
    by_cases h2 : c = d
    · subst h2; simp [T.den, B.den, A.den, E.den, Cm.den, b0]
    · by_cases p : 0 ≤ a
      · by_cases q : 0 ≤ c
        · simp [T.den, B.den, A.den, E.den, Cm.den, h2, p, q, kk p q, show ¬ (a < 0 ∨ c < 0) by omega]
        · simp [T.den, B.den, A.den, E.den, Cm.den, h2, p, q, fullL, fullH, show a < 0 ∨ c < 0 by omega]
      · simp [T.den, B.den, A.den, E.den, Cm.den, h2, p, fullL, fullH, show a < 0 ∨ c < 0 by omega]
  · by_cases p : 0 ≤ a
    · by_cases q : 0 ≤ c
      · simp [T.den, B.den, A.den, E.den, Cm.den, h1, p, q, kk p q, show ¬ (a < 0 ∨ c < 0) by omega]
      · simp [T.den, B.den, A.den, E.den, Cm.den, h1, p, q, fullL, fullH, show a < 0 ∨ c < 0 by omega]
    · simp [T.den, B.den, A.den, E.den, Cm.den, h1, p, fullL, fullH, show a < 0 ∨ c < 0 by omega]
theorem key10_2 {F : Nat → List Int → Option (List Int)} {a b c d : Int} (ha : 0 ≤ a) (hc : 0 ≤ c) (hab : a ≤ b) (hcd : c ≤ d) (hb : inI b) (hd : inI d) : iter 65 (fun s => T.den F 65 lb10 (10 :: 2 :: a :: b :: c :: d :: s)) 1 [0] = some (0, [max a c, topV (max b d)]) := by
  refine top_loop (F := F) (pre := []) (m := max b d) (r := fun t => [max a c, t]) (by omega) (by unfold inI at *; omega) (fun i h0 h1 h2 => ?_) (fun t ht => ?_)
  · have hlt : p2 i - 1 < b ∨ p2 i - 1 < d := by omega
    simp [lb10, T.den, B.den, A.den, E.den, Cm.den, wrap64, hlt]
  · have h1 : ¬ (t < b ∨ t < d) := by omega
    simp [lb10, T.den, B.den, A.den, E.den, Cm.den, h1, mx_eq]
theorem c50x102 {F : Nat → List Int → Option (List Int)} {a b c d : Int} (hb : inI b) (hd : inI d) (hab : a ≤ b) (hcd : c ≤ d) : t50x102.den F 65 [10, 2, a, b, c, d] = some (0, orR 2 a b c d) := by
  have e : t50x102 = (.br (.cmp .eq (.v 2) (.v 3)) (.br (.and (.cmp .eq (.v 2) (.v 3)) (.cmp .eq (.v 4) (.v 5))) (.lt (.band .i64 (.v 2) (.v 4)) (.lt (.bor .i64 (.v 2) (.v 4)) (.ret [(.v 7), (.v 7)]))) (.br (.or (.cmp .lt (.v 2) (.n 0)) (.cmp .lt (.v 4) (.n 0))) (.ret [(.n 0), (.n 255)]) (.loop 1 [(.n 0)] lb10))) (.br (.or (.cmp .lt (.v 2) (.n 0)) (.cmp .lt (.v 4) (.n 0))) (.ret [(.n 0), (.n 255)]) (.loop 1 [(.n 0)] lb10))) := rfl
  rw [e]
  have b0 : ∀ x y, bitsOf .i64 (fun a b => a ||| b) x y = orB x y := fun _ _ => rfl
  unfold orR
  have kk : 0 ≤ a → 0 ≤ c → iter 65 (fun s => T.den F 65 lb10 (10 :: 2 :: a :: b :: c :: d :: s)) 1 [0] = some (0, [max a c, topV (max b d)]) := fun g1 g2 => key10_2 g1 g2 hab hcd hb hd
  by_cases h1 : a = b
  · subst h1
    by_cases h2 : c = d
    · subst h2; simp [T.den, B.den, A.den, E.den, Cm.den, b0]
    · by_cases p : 0 ≤ a
      · by_cases q : 0 ≤ c
        · simp [T.den, B.den, A.den, E.den, Cm.den, h2, p, q, kk p q, show ¬ (a < 0 ∨ c < 0) by omega]
        · simp [T.den, B.den, A.den, E.den, Cm.den, h2, p, q, fullL, fullH, show a < 0 ∨ c < 0 by omega]
      · simp [T.den, B.den, A.den, E.den, Cm.den, h2, p, fullL, fullH, show a < 0 ∨ c < 0 by omega]
  · by_cases p : 0 ≤ a
    · by_cases q : 0 ≤ c
      · simp [T.den, B.den, A.den, E.den, Cm.den, h1, p, q, kk p q, show ¬ (a < 0 ∨ c < 0) by omega]
      · simp [T.den, B.den, A.den, E.den, Cm.den, h1, p, q, fullL, fullH, show a < 0 ∨ c < 0 by omega]
    · simp [T.den, B.den, A.den, E.den, Cm.den, h1, p, fullL, fullH, show a < 0 ∨ c < 0 by omega]
def bitsS : List Int → Option (List Int)
  | [op, k, a, b, c, d] => if (op = 8 ∨ op = 9 ∨ op = 10) ∧ (k = 1 ∨ k = 2) ∧ in4 a b c d ∧ a ≤ b ∧ c ≤ d then some (if op = 8 then andR k a b c d else if op = 9 then xorR k a b c d else orR k a b c d) else none
  | _ => none
def p50 : Sp := (50, sg50, bitsS)
theorem e50 : Ent p50 := by
  intro args rs w h hl hg
  match args, hl with
  | [op, k, a, b, c, d], _ =>
    simp only [p50, bitsS] at h
    split at h
    · rename_i hr
      cases h
      obtain ⟨hop, hk, h4, hab, hcd⟩ := hr
      rcases hop with rfl | rfl | rfl <;> rcases hk with rfl | rfl
      · exact ent_run (fun g => !(List.contains [50] g)) (l := []) ents_nil (is := [8, 1, a, b, c, d]) (K := 65) q50x81 rfl rfl (by kernel_rfl) (fun _ h => absurd h List.not_mem_nil) (fun _ h => absurd h List.not_mem_nil) hg c50x81
      · exact ent_run (fun g => !(List.contains [50] g)) (l := []) ents_nil (is := [8, 2, a, b, c, d]) (K := 65) q50x82 rfl rfl (by kernel_rfl) (fun _ h => absurd h List.not_mem_nil) (fun _ h => absurd h List.not_mem_nil) hg c50x82
      · exact ent_run (fun g => !(List.contains [50] g)) (l := []) ents_nil (is := [9, 1, a, b, c, d]) (K := 65) q50x91 rfl rfl (by kernel_rfl) (fun _ h => absurd h List.not_mem_nil) (fun _ h => absurd h List.not_mem_nil) hg (c50x91 h4.2.1 h4.2.2.2 hab hcd)
      · exact ent_run (fun g => !(List.contains [50] g)) (l := []) ents_nil (is := [9, 2, a, b, c, d]) (K := 65) q50x92 rfl rfl (by kernel_rfl) (fun _ h => absurd h List.not_mem_nil) (fun _ h => absurd h List.not_mem_nil) hg (c50x92 h4.2.1 h4.2.2.2 hab hcd)
      · exact ent_run (fun g => !(List.contains [50] g)) (l := []) ents_nil (is := [10, 1, a, b, c, d]) (K := 65) q50x101 rfl rfl (by kernel_rfl) (fun _ h => absurd h List.not_mem_nil) (fun _ h => absurd h List.not_mem_nil) hg (c50x101 h4.2.1 h4.2.2.2 hab hcd)
      · exact ent_run (fun g => !(List.contains [50] g)) (l := []) ents_nil (is := [10, 2, a, b, c, d]) (K := 65) q50x102 rfl rfl (by kernel_rfl) (fun _ h => absurd h List.not_mem_nil) (fun _ h => absurd h List.not_mem_nil) hg (c50x102 h4.2.1 h4.2.2.2 hab hcd)
    · cases h

/-! ### Comparisons -/
def comparedS : List Int → Option (List Int)
  | [op, a, b, c, d] => if 11 ≤ op ∧ op ≤ 16 ∧ a ≤ b ∧ c ≤ d then some [if cmpA op a b c d then 1 else 0, if cmpN op a b c d then 0 else 1] else none
  | _ => none
def sg51 : Sig := ⟨[I, (.agg [.int .i64, .int .i64]), (.agg [.int .i64, .int .i64])], [(.agg [.int .i64, .int .i64])]⟩
def t51 : T := (.br (.cmp .eq (.v 0) (.n 11)) (.br (.and (.cmp .eq (.v 1) (.v 2)) (.and (.cmp .eq (.v 1) (.v 3)) (.cmp .eq (.v 2) (.v 4)))) (.ret [(.n 1), (.n 1)]) (.br (.or (.cmp .lt (.v 2) (.v 3)) (.cmp .lt (.v 4) (.v 1))) (.ret [(.n 0), (.n 0)]) (.ret [(.n 0), (.n 1)]))) (.br (.cmp .eq (.v 0) (.n 12)) (.br (.or (.cmp .lt (.v 2) (.v 3)) (.cmp .lt (.v 4) (.v 1))) (.ret [(.n 1), (.n 1)]) (.br (.and (.cmp .eq (.v 1) (.v 2)) (.and (.cmp .eq (.v 1) (.v 3)) (.cmp .eq (.v 2) (.v 4)))) (.ret [(.n 0), (.n 0)]) (.ret [(.n 0), (.n 1)]))) (.br (.cmp .eq (.v 0) (.n 13)) (.br (.cmp .lt (.v 2) (.v 3)) (.ret [(.n 1), (.n 1)]) (.br (.not (.cmp .lt (.v 1) (.v 4))) (.ret [(.n 0), (.n 0)]) (.ret [(.n 0), (.n 1)]))) (.br (.cmp .eq (.v 0) (.n 14)) (.br (.not (.cmp .lt (.v 3) (.v 2))) (.ret [(.n 1), (.n 1)]) (.br (.cmp .lt (.v 4) (.v 1)) (.ret [(.n 0), (.n 0)]) (.ret [(.n 0), (.n 1)]))) (.br (.cmp .eq (.v 0) (.n 15)) (.br (.cmp .lt (.v 4) (.v 1)) (.ret [(.n 1), (.n 1)]) (.br (.not (.cmp .lt (.v 3) (.v 2))) (.ret [(.n 0), (.n 0)]) (.ret [(.n 0), (.n 1)]))) (.br (.not (.cmp .lt (.v 1) (.v 4))) (.ret [(.n 1), (.n 1)]) (.br (.cmp .lt (.v 2) (.v 3)) (.ret [(.n 0), (.n 0)]) (.ret [(.n 0), (.n 1)]))))))))
theorem q51 : sxFunc (Cf [] unAll) 200 51 sg51 = t51 := by kernel_rfl
def p51 : Sp := (51, sg51, comparedS)
theorem e51 : Ent p51 := ent_of unAll (l := []) ents_nil q51 fun args rs h hl => by
  match args, hl with
  | [op, a, b, c, d], _ =>
    simp only [comparedS] at h
    split at h
    · rename_i hr
      cases h
      refine ⟨0, ?_⟩
      obtain ⟨h1, h2, hab, hcd⟩ := hr
      have hc : op = 11 ∨ op = 12 ∨ op = 13 ∨ op = 14 ∨ op = 15 ∨ op = 16 := by omega
      rcases hc with rfl | rfl | rfl | rfl | rfl | rfl
      all_goals
        simp only [t51, T.den, B.den, A.den, E.den, Cm.den, List.map, List.getD_cons_zero, List.getD_cons_succ, List.cons_append, List.nil_append, Bool.or_eq_true, Bool.and_eq_true, Bool.not_eq_true', decide_eq_true_eq, decide_eq_false_iff_not, beq_iff_eq, beq_eq_false_iff_ne, ne_eq, cmpA, cmpN, Int.reduceEq, if_true, if_false]
        (repeat' split) <;> first | rfl | (exfalso; omega) | (simp only [Option.some.injEq, Prod.mk.injEq, List.cons.injEq, and_true, true_and]; omega)
    · cases h

/-! ### Unary -/
theorem fits_un {op k : Int} : fitsS [op, k, 0] = some [if (k = 1 ∨ k = 2) ∧ (op = 1 ∨ op = 3) ∨ k = 3 ∧ op = 2 then 1 else 0] := by
  show some [if (0 : Int) = 0 then fits1 op k else fits2 op k] = _
  rw [if_pos rfl]; rfl
def unaryS' : List Int → Option (List Int) := unaryS
def sg27 : Sig := ⟨[I, I, (.agg [.int .i64, .int .i64])], [(.agg [.int .i64, .int .i64]), I]⟩
def t27 : T := (.call 36 [(.v 0), (.v 1), (.n 0)] 1 (.br (.not (.cmp .eq (.v 4) (.n 0))) (.call 22 [(.v 1), (.v 2), (.v 3)] 1 (.br (.or (.cmp .eq (.v 4) (.n 0)) (.not (.cmp .eq (.v 5) (.n 0)))) (.ret [(.n 0), (.n 0), (.n 2)]) (.br (.cmp .eq (.v 0) (.n 1)) (.call 47 [(.n 5), (.n 0), (.n 0), (.v 2), (.v 3)] 3 (.lt (.sel (.not (.cmp .eq (.v 8) (.n 0))) (.n 1) (.n 0)) (.call 46 [(.v 6), (.v 7), (.v 9), (.v 1)] 2 (.ret [(.v 10), (.v 11), (.n 0)])))) (.br (.cmp .eq (.v 0) (.n 2)) (.lt (.sub .i64 (.n 1) (.v 3)) (.lt (.sub .i64 (.n 1) (.v 2)) (.ret [(.v 6), (.v 7), (.n 0)]))) (.br (.cmp .eq (.v 1) (.n 2)) (.lt (.sub .i64 (.n 255) (.v 3)) (.lt (.sub .i64 (.n 255) (.v 2)) (.ret [(.v 6), (.v 7), (.n 0)]))) (.lt (.sub .i64 (.n (-1)) (.v 3)) (.lt (.sub .i64 (.n (-1)) (.v 2)) (.ret [(.v 6), (.v 7), (.n 0)])))))))) (.ret [(.n 0), (.n 0), (.n 2)])))
theorem q27 : sxFunc (Cf [p36, p22, p47, p46] unAll) 200 27 sg27 = t27 := by kernel_rfl
theorem c27 {F : Nat → List Int → Option (List Int)} {op k a b : Int} (g36 : F 36 = fitsS) (g22 : F 22 = checkS) (g47 : F 47 = cornersS) (g46 : F 46 = broughtS) (ha : inI a) (hb : inI b) : t27.den F 0 [op, k, a, b] = some (0, [unL op k a b, unH op k a b, unE op k a b]) := by
  have f36 : F 36 [op, k, 0] = some [if (k = 1 ∨ k = 2) ∧ (op = 1 ∨ op = 3) ∨ k = 3 ∧ op = 2 then 1 else 0] := by rw [g36]; exact fits_un
  have f22 : F 22 [k, a, b] = some [checkE k a b] := by rw [g22]; exact if_pos ⟨ha, hb⟩
  by_cases hf : (k = 1 ∨ k = 2) ∧ (op = 1 ∨ op = 3) ∨ k = 3 ∧ op = 2
  · rw [if_pos hf] at f36
    by_cases hok : okR k a b
    · have e0 : checkE k a b = 0 := if_pos hok
      rw [e0] at f22
      have hab := hok.2
      unfold unL unH unE
      rcases hf with ⟨hk, hop⟩ | ⟨rfl, rfl⟩
      · rcases hop with rfl | rfl
        · have hcor : corOk 5 0 0 a b := ⟨⟨by unfold inI; omega, by unfold inI; omega, ha, hb⟩, by omega⟩
          obtain ⟨lo, hi, ov, e1, e2, e3⟩ := brought_cor (k := k) (f := (· - ·)) (a := 0) (b := 0) (c := a) (d := b) hk
          have e4 : F 47 [5, 0, 0, a, b] = some [lo, hi, ov] := by rw [g47, ← e1]; exact if_pos hcor
          have e5 : (if ov = 0 then (0 : Int) else 1) = ov := by rcases e2 with rfl | rfl <;> rfl
          have e6 : lo4 (0 - a) (0 - b) (0 - a) (0 - b) = -b := by unfold lo4; omega
          have e7 : hi4 (0 - a) (0 - b) (0 - a) (0 - b) = -a := by unfold hi4; omega
          rw [← g46, e6, e7] at e3
          unfold br at e3
          have n3 : ¬ k = 3 := by omega
          have hk' : (k = 1 ∨ k = 2) = True := eq_true hk
          simp [t27, T.den, B.den, A.den, E.den, Cm.den, f36, f22, e4, e5, e3, hok, hk']
        · have n3 : ¬ k = 3 := by omega
          rcases hk with rfl | rfl
          · have a1 : w64 (-1 - a) = -1 - a := w64_id (by unfold inI at *; omega)
            have b1 : w64 (-1 - b) = -1 - b := w64_id (by unfold inI at *; omega)
            simp [t27, T.den, B.den, A.den, E.den, Cm.den, f36, f22, hok, wrap64, a1, b1]
          · have hr : 0 ≤ a ∧ b ≤ 255 := by unfold okR at hok; omega
            have a1 : w64 (255 - a) = 255 - a := w64_id (by unfold inI; omega)
            have b1 : w64 (255 - b) = 255 - b := w64_id (by unfold inI; omega)
            simp [t27, T.den, B.den, A.den, E.den, Cm.den, f36, f22, hok, wrap64, a1, b1]
      · have hr : 0 ≤ a ∧ b ≤ 1 := by unfold okR at hok; omega
        have a1 : w64 (1 - a) = 1 - a := w64_id (by unfold inI; omega)
        have b1 : w64 (1 - b) = 1 - b := w64_id (by unfold inI; omega)
        simp [t27, T.den, B.den, A.den, E.den, Cm.den, f36, f22, hok, wrap64, a1, b1]
    · have e0 : checkE k a b = 2 := if_neg hok
      rw [e0] at f22
      unfold unL unH unE
      simp [t27, T.den, B.den, A.den, E.den, Cm.den, f36, f22, hok]
  · rw [if_neg hf] at f36
    have z1 : unL op k a b = 0 := by
      unfold unL
      by_cases hok : okR k a b
      · simp only [hok, not_true_eq_false, if_false]
        rw [if_neg (by omega), if_neg (by omega), if_neg (by omega), if_neg (by omega)]
      · simp [hok]
    have z2 : unH op k a b = 0 := by
      unfold unH
      by_cases hok : okR k a b
      · simp only [hok, not_true_eq_false, if_false]
        rw [if_neg (by omega), if_neg (by omega), if_neg (by omega), if_neg (by omega)]
      · simp [hok]
    have z3 : unE op k a b = 2 := by
      unfold unE
      rw [if_neg (by omega)]
    rw [z1, z2, z3]
    simp [t27, T.den, B.den, A.den, E.den, Cm.den, f36]
def p27 : Sp := (27, sg27, unaryS)
theorem e27 : Ent p27 := ent_of unAll (l := [p36, p22, p47, p46]) (ents_cons e36 (ents_cons e22 (ents_cons e47 (ents_cons e46 ents_nil)))) q27 fun args rs h hl => by
  match args, hl with
  | [op, k, a, b], _ =>
    simp only [unaryS] at h
    split at h
    · rename_i hr
      cases h
      exact ⟨0, c27 rfl rfl rfl rfl hr.1 hr.2⟩
    · cases h
end Go.SXR

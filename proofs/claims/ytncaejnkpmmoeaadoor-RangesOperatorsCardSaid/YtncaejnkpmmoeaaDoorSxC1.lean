/- RANGES: sums, products and shifts of the reference; corners; what is brought into a kind. -/
import Derived.Test.YtncaejnkpmmoeaaDoorSxB30
set_option linter.unusedVariables false
set_option linter.unusedSimpArgs false
namespace Go.SXR
open Go Go.SX Go.Proofs Go.RowKit

def ovr (x : Int) : Int := if inI x then 0 else 1
theorem ovr_sel' (x : Int) : (if ovr x = 0 then (0 : Int) else 1) = ovr x := by unfold ovr; split <;> rfl
def sumS : List Int → Option (List Int)
  | [a, b] => if inI a ∧ inI b then some [w64 (a + b), ovr (a + b)] else none
  | _ => none
def sg79 : Sig := ⟨[I, I], [I, L]⟩
def t79 : T := (.lt (.add .i64 (.v 0) (.v 1)) (.lt (.sel (.or (.and (.and (.cmp .lt (.n 0) (.v 0)) (.cmp .lt (.n 0) (.v 1))) (.cmp .lt (.v 2) (.n 0))) (.and (.and (.cmp .lt (.v 0) (.n 0)) (.cmp .lt (.v 1) (.n 0))) (.not (.cmp .lt (.v 2) (.n 0))))) (.n 1) (.n 0)) (.ret [(.v 2), (.v 3)])))
theorem q79 : sxFunc (Cf [] unAll) 200 79 sg79 = t79 := by kernel_rfl
def p79 : Sp := (79, sg79, sumS)
theorem e79 : Ent p79 := ent_of unAll (l := []) ents_nil q79 fun args rs h hl => by
  match args, hl with
  | [a, b], _ =>
    simp only [sumS] at h
    split at h
    · rename_i hr
      cases h
      refine ⟨0, ?_⟩
      simp only [t79, T.den, B.den, A.den, E.den, Cm.den, List.map, List.getD_cons_zero, List.getD_cons_succ, List.cons_append, List.nil_append, Bool.or_eq_true, Bool.and_eq_true, Bool.not_eq_true', decide_eq_true_eq, decide_eq_false_iff_not, beq_iff_eq, beq_eq_false_iff_ne, ne_eq, wrap64]
      unfold ovr
      obtain ⟨h1, h2⟩ := hr
      unfold inI at h1 h2
      have e : (((0 < a ∧ 0 < b) ∧ w64 (a + b) < 0) ∨ (a < 0 ∧ b < 0) ∧ ¬ w64 (a + b) < 0) ↔ ¬ inI (a + b) := by unfold inI w64; omega
      by_cases c : inI (a + b)
      · rw [if_pos c, if_neg (fun q => e.1 q c)]
      · rw [if_neg c, if_pos (e.2 c)]
    · cases h
def diffS : List Int → Option (List Int)
  | [a, b] => if inI a ∧ inI b then some [w64 (a - b), ovr (a - b)] else none
  | _ => none
def sg80 : Sig := ⟨[I, I], [I, L]⟩
def t80 : T := (.lt (.sub .i64 (.v 0) (.v 1)) (.lt (.sel (.or (.and (.and (.not (.cmp .lt (.v 0) (.n 0))) (.cmp .lt (.v 1) (.n 0))) (.cmp .lt (.v 2) (.n 0))) (.and (.and (.cmp .lt (.v 0) (.n 0)) (.cmp .lt (.n 0) (.v 1))) (.not (.cmp .lt (.v 2) (.n 0))))) (.n 1) (.n 0)) (.ret [(.v 2), (.v 3)])))
theorem q80 : sxFunc (Cf [] unAll) 200 80 sg80 = t80 := by kernel_rfl
def p80 : Sp := (80, sg80, diffS)
theorem e80 : Ent p80 := ent_of unAll (l := []) ents_nil q80 fun args rs h hl => by
  match args, hl with
  | [a, b], _ =>
    simp only [diffS] at h
    split at h
    · rename_i hr
      cases h
      refine ⟨0, ?_⟩
      simp only [t80, T.den, B.den, A.den, E.den, Cm.den, List.map, List.getD_cons_zero, List.getD_cons_succ, List.cons_append, List.nil_append, Bool.or_eq_true, Bool.and_eq_true, Bool.not_eq_true', decide_eq_true_eq, decide_eq_false_iff_not, beq_iff_eq, beq_eq_false_iff_ne, ne_eq, wrap64]
      unfold ovr
      obtain ⟨h1, h2⟩ := hr
      unfold inI at h1 h2
      have e : (((¬ a < 0 ∧ b < 0) ∧ w64 (a - b) < 0) ∨ (a < 0 ∧ 0 < b) ∧ ¬ w64 (a - b) < 0) ↔ ¬ inI (a - b) := by unfold inI w64; omega
      by_cases c : inI (a - b)
      · rw [if_pos c, if_neg (fun q => e.1 q c)]
      · rw [if_neg c, if_pos (e.2 c)]
    · cases h
/-- A product that is wrapped is not divided to its factor. -/
theorem prod_over {a b : Int} (ha : inI a) (hb : inI b) (h0 : b ≠ 0) (h1 : b ≠ -1) : w64 ((w64 (a * b)).tdiv b) = a ↔ inI (a * b) := by
  have hw : inI (w64 (a * b)) := w64_inI _
  rw [wq hw h0 (by omega)]
  constructor
  · intro h
    have e := Int.mul_tdiv_add_tmod (w64 (a * b)) b
    rw [h] at e
    have hm := (tmod_bounds (w64 (a * b)) b h0).2.2
    generalize (w64 (a * b)).tmod b = t at *
    have hk : ∃ k : Int, w64 (a * b) = a * b + k * 18446744073709551616 := by
      have h1 := Int.mul_ediv_add_emod (a * b) 18446744073709551616
      unfold w64
      split
      · exact ⟨-(a * b / 18446744073709551616), by omega⟩
      · exact ⟨-(a * b / 18446744073709551616) - 1, by omega⟩
    obtain ⟨k, hk⟩ := hk
    rw [Int.mul_comm b a] at e
    unfold inI at hb
    have : k = 0 := by omega
    subst this
    rw [show a * b = w64 (a * b) by omega]
    exact hw
  · intro h
    rw [w64_id h, Int.mul_tdiv_cancel _ h0]
def prodS : List Int → Option (List Int)
  | [a, b] => if inI a ∧ inI b then some [w64 (a * b), ovr (a * b)] else none
  | _ => none
def sg81 : Sig := ⟨[I, I], [I, L]⟩
def t81 : T := (.br (.or (.cmp .eq (.v 0) (.n 0)) (.cmp .eq (.v 1) (.n 0))) (.ret [(.n 0), (.n 0)]) (.lt (.mul .i64 (.v 0) (.v 1)) (.br (.or (.cmp .eq (.v 0) (.n (-1))) (.cmp .eq (.v 1) (.n (-1)))) (.lt (.sel (.or (.cmp .eq (.v 0) (.n (-9223372036854775808))) (.cmp .eq (.v 1) (.n (-9223372036854775808)))) (.n 1) (.n 0)) (.ret [(.v 2), (.v 3)])) (.lt (.quo .i64 (.v 2) (.v 1)) (.lt (.sel (.not (.cmp .eq (.v 3) (.v 0))) (.n 1) (.n 0)) (.ret [(.v 2), (.v 4)]))))))
theorem q81 : sxFunc (Cf [] unAll) 200 81 sg81 = t81 := by kernel_rfl
def p81 : Sp := (81, sg81, prodS)
theorem e81 : Ent p81 := ent_of unAll (l := []) ents_nil q81 fun args rs h hl => by
  match args, hl with
  | [a, b], _ =>
    simp only [prodS] at h
    split at h
    · rename_i hr
      cases h
      refine ⟨0, ?_⟩
      obtain ⟨h1, h2⟩ := hr
      simp only [t81, T.den, B.den, A.den, E.den, Cm.den, List.map, List.getD_cons_zero, List.getD_cons_succ, List.cons_append, List.nil_append, Bool.or_eq_true, Bool.and_eq_true, Bool.not_eq_true', decide_eq_true_eq, decide_eq_false_iff_not, beq_iff_eq, beq_eq_false_iff_ne, ne_eq, wrap64]
      by_cases c1 : a = 0 ∨ b = 0
      · rw [if_pos c1]
        have : a * b = 0 := by rcases c1 with rfl | rfl <;> simp
        rw [this]; rfl
      · rw [if_neg c1]
        by_cases c2 : a = -1 ∨ b = -1
        · rw [if_pos c2]
          have e : (a = -9223372036854775808 ∨ b = -9223372036854775808) ↔ ¬ inI (a * b) := by
            unfold inI at *
            rcases c2 with rfl | rfl <;> omega
          unfold ovr
          by_cases c : inI (a * b)
          · rw [if_pos c, if_neg (fun q => e.1 q c)]
          · rw [if_neg c, if_pos (e.2 c)]
        · rw [if_neg c2]
          have e := prod_over h1 h2 (by omega) (by omega)
          unfold ovr
          by_cases c : inI (a * b)
          · rw [if_pos c, if_neg (fun q => q (e.2 c))]
          · rw [if_neg c, if_pos (fun q => c (e.1 q))]
    · cases h
/-! ### Shifts -/
theorem sum_dbl {x y : Int} (h : ¬ inI x) (h2 : y = x + x) : ¬ inI y := by unfold inI at *; omega
theorem w64_dbl (x : Int) : w64 (w64 x + w64 x) = w64 (x + x) := by unfold w64; omega
def shiftedS : List Int → Option (List Int)
  | [a, m] => if inI a ∧ 0 ≤ m ∧ m ≤ 63 then some [w64 (shlF a m), ovr (shlF a m)] else none
  | _ => none
def sg82 : Sig := ⟨[I, I], [I, L]⟩
def t82 : T := (.loop 1 [(.v 0), (.n 0), (.n 0)] (.br (.cmp .lt (.v 4) (.v 1)) (.call 79 [(.v 2), (.v 2)] 2 (.lt (.add .i64 (.v 4) (.n 1)) (.lt (.sel (.or (.not (.cmp .eq (.v 3) (.n 0))) (.not (.cmp .eq (.v 6) (.n 0)))) (.n 1) (.n 0)) (.again 1 [(.v 5), (.v 8), (.v 7)])))) (.out 1 (.lt (.sel (.not (.cmp .eq (.v 3) (.n 0))) (.n 1) (.n 0)) (.ret [(.v 2), (.v 5)])))))
theorem q82 : sxFunc (Cf [p79] (fun g => !(List.contains [82] g))) 200 82 sg82 = t82 := by kernel_rfl
def p82 : Sp := (82, sg82, shiftedS)
theorem e82 : Ent p82 := ent_of (fun g => !(List.contains [82] g)) (l := [p79]) (ents_cons e79 ents_nil) q82 fun args rs h hl => by
  match args, hl with
  | [a, m], _ =>
    simp only [shiftedS] at h
    split at h
    · rename_i hr
      cases h
      obtain ⟨ha, hm0, hm1⟩ := hr
      refine ⟨m.toNat + 1, ?_⟩
      have g79 : fOf [p79] 79 = sumS := rfl
      have key : ∀ (n : Nat) (i : Int), 0 ≤ i → i + n = m → iter (n + 1) (fun s => (T.br (.cmp .lt (.v 4) (.v 1)) (.call 79 [(.v 2), (.v 2)] 2 (.lt (.add .i64 (.v 4) (.n 1)) (.lt (.sel (.or (.not (.cmp .eq (.v 3) (.n 0))) (.not (.cmp .eq (.v 6) (.n 0)))) (.n 1) (.n 0)) (.again 1 [(.v 5), (.v 8), (.v 7)])))) (.out 1 (.lt (.sel (.not (.cmp .eq (.v 3) (.n 0))) (.n 1) (.n 0)) (.ret [(.v 2), (.v 5)])))).den (fOf [p79]) (m.toNat + 1) ([a, m] ++ s)) 1 [w64 (shlF a i), ovr (shlF a i), i] = some (0, [w64 (shlF a m), ovr (shlF a m)]) := by
        intro n
        induction n with
        | zero =>
          intro i h0 hi
          have : i = m := by omega
          subst this
          refine iter_stop ?_ (by decide)
          unfold ovr
          by_cases c : inI (shlF a i) <;> simp [T.den, B.den, A.den, E.den, Cm.den, c]
        | succ n ih =>
          intro i h0 hi
          have hlt : i < m := by omega
          have hw : w64 (i + 1) = i + 1 := w64_id (by unfold inI; omega)
          have hp : sumS [w64 (shlF a i), w64 (shlF a i)] = some [w64 (w64 (shlF a i) + w64 (shlF a i)), ovr (w64 (shlF a i) + w64 (shlF a i))] := if_pos ⟨w64_inI _, w64_inI _⟩
          have hd : shlF a (i + 1) = shlF a i + shlF a i := by unfold shlF; rw [p2_succ h0, Int.mul_add]
          refine (iter_again (s' := [w64 (shlF a (i + 1)), ovr (shlF a (i + 1)), i + 1]) ?_).trans (ih (i + 1) (by omega) (by omega))
          rw [hd, ← w64_dbl]
          by_cases c : inI (shlF a i)
          · have e1 : ovr (shlF a i) = 0 := if_pos c
            have e2 : w64 (shlF a i) = shlF a i := w64_id c
            rw [e2] at hp ⊢
            rw [e1]
            simp [T.den, B.den, A.den, E.den, Cm.den, g79, hp, hlt, wrap64, hw, ovr_sel']
          · have e1 : ovr (shlF a i) = 1 := if_neg c
            have e3 : ovr (shlF a i + shlF a i) = 1 := if_neg (sum_dbl c rfl)
            rw [e1, e3]
            simp [T.den, B.den, A.den, E.den, Cm.den, g79, hp, hlt, wrap64, hw]
      have := key m.toNat 0 (by omega) (by omega)
      have e0 : shlF a 0 = a := by
        have h1 : p2 0 = 1 := by decide
        unfold shlF
        rw [h1, Int.mul_one]
      have e1 : ovr a = 0 := if_pos ha
      rw [e0, w64_id ha, e1] at this
      simpa [t82, T.den, A.den] using this
    · cases h

/-! ### Intervals of corners -/
def bitV (x : Int) : Int := if x = 0 then 0 else 1
def addS : List Int → Option (List Int)
  | [lo, hi, ov, n, nov, first] => some (if first = 0 then [min lo n, max hi n, if ov = 0 ∧ nov = 0 then 0 else 1] else [n, n, bitV nov])
  | _ => none
def sg83 : Sig := ⟨[(.agg [.int .i64, .int .i64, .bool]), I, L, L], [(.agg [.int .i64, .int .i64, .bool])]⟩
def t83 : T := (.br (.not (.cmp .eq (.v 5) (.n 0))) (.lt (.sel (.not (.cmp .eq (.v 4) (.n 0))) (.n 1) (.n 0)) (.ret [(.v 3), (.v 3), (.v 6)])) (.lt (.mn (.v 0) (.v 3)) (.lt (.mx (.v 1) (.v 3)) (.lt (.sel (.or (.not (.cmp .eq (.v 2) (.n 0))) (.not (.cmp .eq (.v 4) (.n 0)))) (.n 1) (.n 0)) (.ret [(.v 6), (.v 7), (.v 8)])))))
theorem q83 : sxFunc (Cf [] unAll) 200 83 sg83 = t83 := by kernel_rfl
def p83 : Sp := (83, sg83, addS)
theorem e83 : Ent p83 := ent_of unAll (l := []) ents_nil q83 fun args rs h hl => by
  match args, hl with
  | [lo, hi, ov, n, nov, first], _ =>
    simp only [addS] at h
    cases h
    refine ⟨0, ?_⟩
    unfold bitV
    by_cases c : first = 0
    · by_cases c1 : ov = 0 <;> by_cases c2 : nov = 0 <;> simp [t83, T.den, B.den, A.den, E.den, Cm.den, c, c1, c2, mn_eq, mx_eq]
    · by_cases c2 : nov = 0 <;> simp [t83, T.den, B.den, A.den, E.den, Cm.den, c, c2]
def ov4 (x y z t : Int) : Int := if inI x ∧ inI y ∧ inI z ∧ inI t then 0 else 1
def corR (f : Int → Int → Int) (a b c d : Int) : List Int := [lo4 (w64 (f a c)) (w64 (f a d)) (w64 (f b c)) (w64 (f b d)), hi4 (w64 (f a c)) (w64 (f a d)) (w64 (f b c)) (w64 (f b d)), ov4 (f a c) (f a d) (f b c) (f b d)]
def opF (op : Int) : Int → Int → Int := if op = 4 then (· + ·) else if op = 5 then (· - ·) else if op = 1 then (· * ·) else if op = 2 then Int.tdiv else if op = 6 then shlF else shrF
def corOk (op a b c d : Int) : Prop := in4 a b c d ∧ (op = 4 ∨ op = 5 ∨ op = 1 ∨ (op = 2 ∧ (c ≠ 0 ∧ d ≠ 0) ∧ ¬ (a = -9223372036854775808 ∧ (c = -1 ∨ d = -1)) ∧ ¬ (b = -9223372036854775808 ∧ (c = -1 ∨ d = -1))) ∨ ((op = 6 ∨ op = 7) ∧ (0 ≤ c ∧ c ≤ 63) ∧ 0 ≤ d ∧ d ≤ 63))
instance (op a b c d : Int) : Decidable (corOk op a b c d) := by unfold corOk; infer_instance
def cornersS : List Int → Option (List Int)
  | [op, a, b, c, d] => if corOk op a b c d then some (corR (opF op) a b c d) else none
  | _ => none
theorem ovr_sel (x : Int) : (if (!(ovr x == 0)) = true then (1 : Int) else 0) = ovr x := by unfold ovr; split <;> rfl
theorem add_first (n x : Int) : addS [0, 0, 0, n, ovr x, 1] = some [n, n, ovr x] := by
  show some [n, n, bitV (ovr x)] = _
  unfold bitV ovr; split <;> rfl
/-- Behind the second, third and fourth corner. -/
def ovs (l : List Int) : Int := if ∀ x ∈ l, inI x then 0 else 1
theorem add_next (lo hi n x : Int) (l : List Int) : addS [lo, hi, ovs l, n, ovr x, 0] = some [min lo n, max hi n, ovs (x :: l)] := by
  show some [min lo n, max hi n, if ovs l = 0 ∧ ovr x = 0 then 0 else 1] = _
  have : (if ovs l = 0 ∧ ovr x = 0 then (0 : Int) else 1) = ovs (x :: l) := by
    unfold ovs ovr
    by_cases c1 : ∀ x ∈ l, inI x
    · by_cases c2 : inI x
      · rw [if_pos ⟨if_pos c1, if_pos c2⟩, if_pos (fun y hy => (List.mem_cons.1 hy).elim (fun q => q ▸ c2) (c1 y))]
      · rw [if_neg (by simp [c2]), if_neg (fun q => c2 (q x List.mem_cons_self))]
    · rw [if_neg (by simp [c1]), if_neg (fun q => c1 (fun y hy => q y (List.mem_cons_of_mem _ hy)))]
  rw [this]
theorem ovs_sel (l : List Int) : (if (!(ovs l == 0)) = true then (1 : Int) else 0) = ovs l := by unfold ovs; split <;> rfl
theorem ovs_sel' (l : List Int) : (if ovs l = 0 then (0 : Int) else 1) = ovs l := by unfold ovs; split <;> rfl
theorem ovs_one (x : Int) : ovr x = ovs [x] := by unfold ovr ovs; simp
theorem ovs_four (x y z t : Int) : ovs [t, z, y, x] = ov4 x y z t := by
  unfold ovs ov4
  by_cases c : inI x ∧ inI y ∧ inI z ∧ inI t
  · rw [if_pos c, if_pos]; simp [c]
  · rw [if_neg c, if_neg]; intro q; exact c ⟨q x (by simp), q y (by simp), q z (by simp), q t (by simp)⟩
theorem ov4_sel (x y z t : Int) : (if ov4 x y z t = 0 then (0 : Int) else 1) = ov4 x y z t := by unfold ov4; split <;> rfl
def sg47 : Sig := ⟨[I, RG, RG], [.agg [.int .i64, .int .i64, .bool]]⟩
def t47x4 : T := (.call 79 [(.v 1), (.v 3)] 2 (.lt (.sel (.not (.cmp .eq (.v 6) (.n 0))) (.n 1) (.n 0)) (.call 83 [(.n 0), (.n 0), (.n 0), (.v 5), (.v 7), (.n 1)] 3 (.call 79 [(.v 1), (.v 4)] 2 (.lt (.sel (.not (.cmp .eq (.v 10) (.n 0))) (.n 1) (.n 0)) (.lt (.sel (.not (.cmp .eq (.v 12) (.n 0))) (.n 1) (.n 0)) (.call 83 [(.v 8), (.v 9), (.v 13), (.v 11), (.v 14), (.n 0)] 3 (.call 79 [(.v 2), (.v 3)] 2 (.lt (.sel (.not (.cmp .eq (.v 17) (.n 0))) (.n 1) (.n 0)) (.lt (.sel (.not (.cmp .eq (.v 19) (.n 0))) (.n 1) (.n 0)) (.call 83 [(.v 15), (.v 16), (.v 20), (.v 18), (.v 21), (.n 0)] 3 (.call 79 [(.v 2), (.v 4)] 2 (.lt (.sel (.not (.cmp .eq (.v 24) (.n 0))) (.n 1) (.n 0)) (.lt (.sel (.not (.cmp .eq (.v 26) (.n 0))) (.n 1) (.n 0)) (.call 83 [(.v 22), (.v 23), (.v 27), (.v 25), (.v 28), (.n 0)] 3 (.lt (.sel (.not (.cmp .eq (.v 31) (.n 0))) (.n 1) (.n 0)) (.ret [(.v 29), (.v 30), (.v 32)])))))))))))))))))
theorem q47x4 : sxRun (Cf [p79, p83] unAll) 200 47 sg47 ((mkS 0 sg47.ins).map (subst [(0, 4)])) [] = t47x4 := by kernel_rfl
def t47x5 : T := (.call 80 [(.v 1), (.v 3)] 2 (.lt (.sel (.not (.cmp .eq (.v 6) (.n 0))) (.n 1) (.n 0)) (.call 83 [(.n 0), (.n 0), (.n 0), (.v 5), (.v 7), (.n 1)] 3 (.call 80 [(.v 1), (.v 4)] 2 (.lt (.sel (.not (.cmp .eq (.v 10) (.n 0))) (.n 1) (.n 0)) (.lt (.sel (.not (.cmp .eq (.v 12) (.n 0))) (.n 1) (.n 0)) (.call 83 [(.v 8), (.v 9), (.v 13), (.v 11), (.v 14), (.n 0)] 3 (.call 80 [(.v 2), (.v 3)] 2 (.lt (.sel (.not (.cmp .eq (.v 17) (.n 0))) (.n 1) (.n 0)) (.lt (.sel (.not (.cmp .eq (.v 19) (.n 0))) (.n 1) (.n 0)) (.call 83 [(.v 15), (.v 16), (.v 20), (.v 18), (.v 21), (.n 0)] 3 (.call 80 [(.v 2), (.v 4)] 2 (.lt (.sel (.not (.cmp .eq (.v 24) (.n 0))) (.n 1) (.n 0)) (.lt (.sel (.not (.cmp .eq (.v 26) (.n 0))) (.n 1) (.n 0)) (.call 83 [(.v 22), (.v 23), (.v 27), (.v 25), (.v 28), (.n 0)] 3 (.lt (.sel (.not (.cmp .eq (.v 31) (.n 0))) (.n 1) (.n 0)) (.ret [(.v 29), (.v 30), (.v 32)])))))))))))))))))
theorem q47x5 : sxRun (Cf [p80, p83] unAll) 200 47 sg47 ((mkS 0 sg47.ins).map (subst [(0, 5)])) [] = t47x5 := by kernel_rfl
def t47x1 : T := (.call 81 [(.v 1), (.v 3)] 2 (.lt (.sel (.not (.cmp .eq (.v 6) (.n 0))) (.n 1) (.n 0)) (.call 83 [(.n 0), (.n 0), (.n 0), (.v 5), (.v 7), (.n 1)] 3 (.call 81 [(.v 1), (.v 4)] 2 (.lt (.sel (.not (.cmp .eq (.v 10) (.n 0))) (.n 1) (.n 0)) (.lt (.sel (.not (.cmp .eq (.v 12) (.n 0))) (.n 1) (.n 0)) (.call 83 [(.v 8), (.v 9), (.v 13), (.v 11), (.v 14), (.n 0)] 3 (.call 81 [(.v 2), (.v 3)] 2 (.lt (.sel (.not (.cmp .eq (.v 17) (.n 0))) (.n 1) (.n 0)) (.lt (.sel (.not (.cmp .eq (.v 19) (.n 0))) (.n 1) (.n 0)) (.call 83 [(.v 15), (.v 16), (.v 20), (.v 18), (.v 21), (.n 0)] 3 (.call 81 [(.v 2), (.v 4)] 2 (.lt (.sel (.not (.cmp .eq (.v 24) (.n 0))) (.n 1) (.n 0)) (.lt (.sel (.not (.cmp .eq (.v 26) (.n 0))) (.n 1) (.n 0)) (.call 83 [(.v 22), (.v 23), (.v 27), (.v 25), (.v 28), (.n 0)] 3 (.lt (.sel (.not (.cmp .eq (.v 31) (.n 0))) (.n 1) (.n 0)) (.ret [(.v 29), (.v 30), (.v 32)])))))))))))))))))
theorem q47x1 : sxRun (Cf [p81, p83] unAll) 200 47 sg47 ((mkS 0 sg47.ins).map (subst [(0, 1)])) [] = t47x1 := by kernel_rfl
def t47x2 : T := (.br (.cmp .eq (.v 3) (.n 0)) (.fail 147) (.lt (.quo .i64 (.v 1) (.v 3)) (.call 83 [(.n 0), (.n 0), (.n 0), (.v 5), (.n 0), (.n 1)] 3 (.br (.cmp .eq (.v 4) (.n 0)) (.fail 147) (.lt (.quo .i64 (.v 1) (.v 4)) (.lt (.sel (.not (.cmp .eq (.v 8) (.n 0))) (.n 1) (.n 0)) (.call 83 [(.v 6), (.v 7), (.v 10), (.v 9), (.n 0), (.n 0)] 3 (.lt (.quo .i64 (.v 2) (.v 3)) (.lt (.sel (.not (.cmp .eq (.v 13) (.n 0))) (.n 1) (.n 0)) (.call 83 [(.v 11), (.v 12), (.v 15), (.v 14), (.n 0), (.n 0)] 3 (.lt (.quo .i64 (.v 2) (.v 4)) (.lt (.sel (.not (.cmp .eq (.v 18) (.n 0))) (.n 1) (.n 0)) (.call 83 [(.v 16), (.v 17), (.v 20), (.v 19), (.n 0), (.n 0)] 3 (.lt (.sel (.not (.cmp .eq (.v 23) (.n 0))) (.n 1) (.n 0)) (.ret [(.v 21), (.v 22), (.v 24)])))))))))))))))
theorem q47x2 : sxRun (Cf [p83] unAll) 200 47 sg47 ((mkS 0 sg47.ins).map (subst [(0, 2)])) [] = t47x2 := by kernel_rfl
def t47x6 : T := (.call 82 [(.v 1), (.v 3)] 2 (.lt (.sel (.not (.cmp .eq (.v 6) (.n 0))) (.n 1) (.n 0)) (.call 83 [(.n 0), (.n 0), (.n 0), (.v 5), (.v 7), (.n 1)] 3 (.call 82 [(.v 1), (.v 4)] 2 (.lt (.sel (.not (.cmp .eq (.v 10) (.n 0))) (.n 1) (.n 0)) (.lt (.sel (.not (.cmp .eq (.v 12) (.n 0))) (.n 1) (.n 0)) (.call 83 [(.v 8), (.v 9), (.v 13), (.v 11), (.v 14), (.n 0)] 3 (.call 82 [(.v 2), (.v 3)] 2 (.lt (.sel (.not (.cmp .eq (.v 17) (.n 0))) (.n 1) (.n 0)) (.lt (.sel (.not (.cmp .eq (.v 19) (.n 0))) (.n 1) (.n 0)) (.call 83 [(.v 15), (.v 16), (.v 20), (.v 18), (.v 21), (.n 0)] 3 (.call 82 [(.v 2), (.v 4)] 2 (.lt (.sel (.not (.cmp .eq (.v 24) (.n 0))) (.n 1) (.n 0)) (.lt (.sel (.not (.cmp .eq (.v 26) (.n 0))) (.n 1) (.n 0)) (.call 83 [(.v 22), (.v 23), (.v 27), (.v 25), (.v 28), (.n 0)] 3 (.lt (.sel (.not (.cmp .eq (.v 31) (.n 0))) (.n 1) (.n 0)) (.ret [(.v 29), (.v 30), (.v 32)])))))))))))))))))
theorem q47x6 : sxRun (Cf [p82, p83] unAll) 200 47 sg47 ((mkS 0 sg47.ins).map (subst [(0, 6)])) [] = t47x6 := by kernel_rfl
def t47x7 : T := (.lt (.wrap .u64 (.v 3)) (.br (.cmp .lt (.v 5) (.n 0)) (.fail 152) (.lt (.shr .i64 (.v 1) (.v 5)) (.call 83 [(.n 0), (.n 0), (.n 0), (.v 6), (.n 0), (.n 1)] 3 (.lt (.wrap .u64 (.v 4)) (.br (.cmp .lt (.v 10) (.n 0)) (.fail 152) (.lt (.shr .i64 (.v 1) (.v 10)) (.lt (.sel (.not (.cmp .eq (.v 9) (.n 0))) (.n 1) (.n 0)) (.call 83 [(.v 7), (.v 8), (.v 12), (.v 11), (.n 0), (.n 0)] 3 (.lt (.wrap .u64 (.v 3)) (.br (.cmp .lt (.v 16) (.n 0)) (.fail 152) (.lt (.shr .i64 (.v 2) (.v 16)) (.lt (.sel (.not (.cmp .eq (.v 15) (.n 0))) (.n 1) (.n 0)) (.call 83 [(.v 13), (.v 14), (.v 18), (.v 17), (.n 0), (.n 0)] 3 (.lt (.wrap .u64 (.v 4)) (.br (.cmp .lt (.v 22) (.n 0)) (.fail 152) (.lt (.shr .i64 (.v 2) (.v 22)) (.lt (.sel (.not (.cmp .eq (.v 21) (.n 0))) (.n 1) (.n 0)) (.call 83 [(.v 19), (.v 20), (.v 24), (.v 23), (.n 0), (.n 0)] 3 (.lt (.sel (.not (.cmp .eq (.v 27) (.n 0))) (.n 1) (.n 0)) (.ret [(.v 25), (.v 26), (.v 28)])))))))))))))))))))))
theorem q47x7 : sxRun (Cf [p83] unAll) 200 47 sg47 ((mkS 0 sg47.ins).map (subst [(0, 7)])) [] = t47x7 := by kernel_rfl
theorem add_chain {F : Nat → List Int → Option (List Int)} (g83 : F 83 = addS) (x y z t p q r s : Int) : ∃ a1 a2 a3 a4 a5 a6, F 83 [0, 0, 0, p, ovr x, 1] = some [p, p, ovs [x]] ∧ F 83 [p, p, ovs [x], q, ovr y, 0] = some [a1, a2, ovs [y, x]] ∧ F 83 [a1, a2, ovs [y, x], r, ovr z, 0] = some [a3, a4, ovs [z, y, x]] ∧ F 83 [a3, a4, ovs [z, y, x], s, ovr t, 0] = some [a5, a6, ovs [t, z, y, x]] ∧ a5 = lo4 p q r s ∧ a6 = hi4 p q r s := by
  rw [g83]
  exact ⟨_, _, _, _, _, _, by rw [add_first, ovs_one], add_next _ _ _ _ _, add_next _ _ _ _ _, add_next _ _ _ _ _, rfl, rfl⟩
theorem c47x4 {F : Nat → List Int → Option (List Int)} {a b c d : Int} (g79 : F 79 = sumS) (g83 : F 83 = addS) (h : in4 a b c d) : t47x4.den F 0 [4, a, b, c, d] = some (0, corR (· + ·) a b c d) := by
  obtain ⟨ha, hb, hc, hd⟩ := h
  have e : ∀ x y, inI x → inI y → F 79 [x, y] = some [w64 (x + y), ovr (x + y)] := fun x y hx hy => by rw [g79]; exact if_pos ⟨hx, hy⟩
  obtain ⟨a1, a2, a3, a4, a5, a6, f1, f2, f3, f4, f5, f6⟩ := add_chain g83 (a + c) (a + d) (b + c) (b + d) (w64 (a + c)) (w64 (a + d)) (w64 (b + c)) (w64 (b + d))
  simp [t47x4, T.den, B.den, A.den, E.den, Cm.den, e a c ha hc, e a d ha hd, e b c hb hc, e b d hb hd, ovr_sel', f1, f2, f3, f4, ovs_sel', corR, f5, f6, ovs_four, ov4_sel]
theorem c47x5 {F : Nat → List Int → Option (List Int)} {a b c d : Int} (g80 : F 80 = diffS) (g83 : F 83 = addS) (h : in4 a b c d) : t47x5.den F 0 [5, a, b, c, d] = some (0, corR (· - ·) a b c d) := by
  obtain ⟨ha, hb, hc, hd⟩ := h
  have e : ∀ x y, inI x → inI y → F 80 [x, y] = some [w64 (x - y), ovr (x - y)] := fun x y hx hy => by rw [g80]; exact if_pos ⟨hx, hy⟩
  obtain ⟨a1, a2, a3, a4, a5, a6, f1, f2, f3, f4, f5, f6⟩ := add_chain g83 (a - c) (a - d) (b - c) (b - d) (w64 (a - c)) (w64 (a - d)) (w64 (b - c)) (w64 (b - d))
  simp [t47x5, T.den, B.den, A.den, E.den, Cm.den, e a c ha hc, e a d ha hd, e b c hb hc, e b d hb hd, ovr_sel', f1, f2, f3, f4, ovs_sel', corR, f5, f6, ovs_four, ov4_sel]
theorem c47x1 {F : Nat → List Int → Option (List Int)} {a b c d : Int} (g81 : F 81 = prodS) (g83 : F 83 = addS) (h : in4 a b c d) : t47x1.den F 0 [1, a, b, c, d] = some (0, corR (· * ·) a b c d) := by
  obtain ⟨ha, hb, hc, hd⟩ := h
  have e : ∀ x y, inI x → inI y → F 81 [x, y] = some [w64 (x * y), ovr (x * y)] := fun x y hx hy => by rw [g81]; exact if_pos ⟨hx, hy⟩
  obtain ⟨a1, a2, a3, a4, a5, a6, f1, f2, f3, f4, f5, f6⟩ := add_chain g83 (a * c) (a * d) (b * c) (b * d) (w64 (a * c)) (w64 (a * d)) (w64 (b * c)) (w64 (b * d))
  simp [t47x1, T.den, B.den, A.den, E.den, Cm.den, e a c ha hc, e a d ha hd, e b c hb hc, e b d hb hd, ovr_sel', f1, f2, f3, f4, ovs_sel', corR, f5, f6, ovs_four, ov4_sel]
theorem c47x6 {F : Nat → List Int → Option (List Int)} {a b c d : Int} (g82 : F 82 = shiftedS) (g83 : F 83 = addS) (h : in4 a b c d) (hm : (0 ≤ c ∧ c ≤ 63) ∧ 0 ≤ d ∧ d ≤ 63) : t47x6.den F 0 [6, a, b, c, d] = some (0, corR shlF a b c d) := by
  obtain ⟨ha, hb, hc, hd⟩ := h
  have e : ∀ x y, inI x → (0 ≤ y ∧ y ≤ 63) → F 82 [x, y] = some [w64 (shlF x y), ovr (shlF x y)] := fun x y hx hy => by rw [g82]; exact if_pos ⟨hx, hy⟩
  obtain ⟨a1, a2, a3, a4, a5, a6, f1, f2, f3, f4, f5, f6⟩ := add_chain g83 (shlF a c) (shlF a d) (shlF b c) (shlF b d) (w64 (shlF a c)) (w64 (shlF a d)) (w64 (shlF b c)) (w64 (shlF b d))
  simp [t47x6, T.den, B.den, A.den, E.den, Cm.den, e a c ha hm.1, e a d ha hm.2, e b c hb hm.1, e b d hb hm.2, ovr_sel', f1, f2, f3, f4, ovs_sel', corR, f5, f6, ovs_four, ov4_sel]
theorem ovr0 {x : Int} (h : inI x) : ovr x = 0 := if_pos h
theorem c47x2 {F : Nat → List Int → Option (List Int)} {a b c d : Int} (g83 : F 83 = addS) (h : corOk 2 a b c d) : t47x2.den F 0 [2, a, b, c, d] = some (0, corR Int.tdiv a b c d) := by
  obtain ⟨⟨ha, hb, hc, hd⟩, h⟩ := h
  have h' : (c ≠ 0 ∧ d ≠ 0) ∧ ¬ (a = -9223372036854775808 ∧ (c = -1 ∨ d = -1)) ∧ ¬ (b = -9223372036854775808 ∧ (c = -1 ∨ d = -1)) := by
    rcases h with h | h | h | h | h <;> omega
  obtain ⟨a1, a2, a3, a4, a5, a6, f1, f2, f3, f4, f5, f6⟩ := add_chain g83 (a.tdiv c) (a.tdiv d) (b.tdiv c) (b.tdiv d) (w64 (a.tdiv c)) (w64 (a.tdiv d)) (w64 (b.tdiv c)) (w64 (b.tdiv d))
  rw [ovr0 (tdiv_in ha h'.1.1 (by omega))] at f1
  rw [ovr0 (tdiv_in ha h'.1.2 (by omega))] at f2
  rw [ovr0 (tdiv_in hb h'.1.1 (by omega))] at f3
  rw [ovr0 (tdiv_in hb h'.1.2 (by omega))] at f4
  simp [t47x2, T.den, B.den, A.den, E.den, Cm.den, h'.1.1, h'.1.2, wrap64, f1, f2, f3, f4, ovs_sel', corR, f5, f6, ovs_four, ov4_sel]
theorem shr_in {v m : Int} (hv : inI v) : inI (shrF v m) := by
  have := ediv_btw0 (x := v) (p2_pos m)
  unfold inI at *
  unfold shrF
  rcases Int.le_total 0 v with h | h
  · have := this.1 h; omega
  · have := this.2 h; omega
theorem c47x7 {F : Nat → List Int → Option (List Int)} {a b c d : Int} (g83 : F 83 = addS) (h : in4 a b c d) (hm : (0 ≤ c ∧ c ≤ 63) ∧ 0 ≤ d ∧ d ≤ 63) : t47x7.den F 0 [7, a, b, c, d] = some (0, corR shrF a b c d) := by
  obtain ⟨ha, hb, hc, hd⟩ := h
  obtain ⟨a1, a2, a3, a4, a5, a6, f1, f2, f3, f4, f5, f6⟩ := add_chain g83 (shrF a c) (shrF a d) (shrF b c) (shrF b d) (w64 (shrF a c)) (w64 (shrF a d)) (w64 (shrF b c)) (w64 (shrF b d))
  rw [ovr0 (shr_in ha)] at f1 f2
  rw [ovr0 (shr_in hb)] at f3 f4
  have i1 : w64 (shrF a c) = shrF a c := w64_id (shr_in ha)
  have i2 : w64 (shrF a d) = shrF a d := w64_id (shr_in ha)
  have i3 : w64 (shrF b c) = shrF b c := w64_id (shr_in hb)
  have i4 : w64 (shrF b d) = shrF b d := w64_id (shr_in hb)
  simp only [i1, i2, i3, i4] at f1 f2 f3 f4 f5 f6
  have r1 : c % 18446744073709551616 = c := by omega
  have r2 : d % 18446744073709551616 = d := by omega
  have n1 : ¬ c < 0 := by omega
  have n2 : ¬ d < 0 := by omega
  have s1 : ∀ x, Int.fdiv x (2 ^ (min c.toNat IntKind.i64.bits)) = shrF x c := fun x => fdiv_shr x hm.1.1 hm.1.2
  have s2 : ∀ x, Int.fdiv x (2 ^ (min d.toNat IntKind.i64.bits)) = shrF x d := fun x => fdiv_shr x hm.2.1 hm.2.2
  simp [t47x7, T.den, B.den, A.den, E.den, Cm.den, wrapU, r1, r2, n1, n2, s1, s2, f1, f2, f3, f4, ovs_sel', corR, f5, f6, ovs_four, ov4_sel, i1, i2, i3, i4]
def p47 : Sp := (47, sg47, cornersS)
theorem e47 : Ent p47 := by
  intro args rs w h hl hg
  match args, hl with
  | [op, a, b, c, d], _ =>
    simp only [p47, cornersS] at h
    split at h
    · rename_i hr
      cases h
      have hr' := hr
      obtain ⟨h4, hop⟩ := hr
      rcases hop with rfl | rfl | rfl | ⟨rfl, _⟩ | ⟨rfl | rfl, hm⟩
      · exact ent_run unAll (l := [p79, p83]) (ents_cons e79 (ents_cons e83 ents_nil)) (is := [4, a, b, c, d]) (K := 0) q47x4 rfl rfl (by kernel_rfl) (fun _ h => absurd h List.not_mem_nil) (fun _ h => absurd h List.not_mem_nil) hg (c47x4 rfl rfl h4)
      · exact ent_run unAll (l := [p80, p83]) (ents_cons e80 (ents_cons e83 ents_nil)) (is := [5, a, b, c, d]) (K := 0) q47x5 rfl rfl (by kernel_rfl) (fun _ h => absurd h List.not_mem_nil) (fun _ h => absurd h List.not_mem_nil) hg (c47x5 rfl rfl h4)
      · exact ent_run unAll (l := [p81, p83]) (ents_cons e81 (ents_cons e83 ents_nil)) (is := [1, a, b, c, d]) (K := 0) q47x1 rfl rfl (by kernel_rfl) (fun _ h => absurd h List.not_mem_nil) (fun _ h => absurd h List.not_mem_nil) hg (c47x1 rfl rfl h4)
      · exact ent_run unAll (l := [p83]) (ents_cons e83 ents_nil) (is := [2, a, b, c, d]) (K := 0) q47x2 rfl rfl (by kernel_rfl) (fun _ h => absurd h List.not_mem_nil) (fun _ h => absurd h List.not_mem_nil) hg (c47x2 rfl hr')
      · exact ent_run unAll (l := [p82, p83]) (ents_cons e82 (ents_cons e83 ents_nil)) (is := [6, a, b, c, d]) (K := 0) q47x6 rfl rfl (by kernel_rfl) (fun _ h => absurd h List.not_mem_nil) (fun _ h => absurd h List.not_mem_nil) hg (c47x6 rfl rfl h4 hm)
      · exact ent_run unAll (l := [p83]) (ents_cons e83 ents_nil) (is := [7, a, b, c, d]) (K := 0) q47x7 rfl rfl (by kernel_rfl) (fun _ h => absurd h List.not_mem_nil) (fun _ h => absurd h List.not_mem_nil) hg (c47x7 rfl h4 hm)
    · cases h

/-! ### What is brought into a kind -/
def broughtS : List Int → Option (List Int)
  | [lo, hi, ov, k] => if (k = 1 ∨ k = 2) ∧ inI lo ∧ inI hi then some (if ov = 0 then br k lo hi else [fullL k, fullH k]) else none
  | _ => none
def sg46 : Sig := ⟨[(.agg [.int .i64, .int .i64, .bool]), I], [(.agg [.int .i64, .int .i64])]⟩
def t46 : T := (.br (.cmp .eq (.v 3) (.n 1)) (.br (.not (.cmp .eq (.v 2) (.n 0))) (.ret [(.n (-9223372036854775808)), (.n 9223372036854775807)]) (.ret [(.v 0), (.v 1)])) (.br (.cmp .eq (.v 3) (.n 2)) (.br (.not (.cmp .eq (.v 2) (.n 0))) (.ret [(.n 0), (.n 255)]) (.lt (.shr .i64 (.v 0) (.n 8)) (.lt (.shr .i64 (.v 1) (.n 8)) (.br (.not (.cmp .eq (.v 4) (.v 5))) (.ret [(.n 0), (.n 255)]) (.lt (.band .i64 (.v 0) (.n 255)) (.lt (.band .i64 (.v 1) (.n 255)) (.ret [(.v 6), (.v 7)]))))))) (.br (.cmp .eq (.v 3) (.n 3)) (.br (.not (.cmp .eq (.v 2) (.n 0))) (.ret [(.n 0), (.n 1)]) (.lt (.shr .i64 (.v 0) (.n 8)) (.lt (.shr .i64 (.v 1) (.n 8)) (.br (.not (.cmp .eq (.v 4) (.v 5))) (.ret [(.n 0), (.n 1)]) (.lt (.band .i64 (.v 0) (.n 255)) (.lt (.band .i64 (.v 1) (.n 255)) (.ret [(.v 6), (.v 7)]))))))) (.br (.not (.cmp .eq (.v 2) (.n 0))) (.ret [(.n 0), (.n 0)]) (.lt (.shr .i64 (.v 0) (.n 8)) (.lt (.shr .i64 (.v 1) (.n 8)) (.br (.not (.cmp .eq (.v 4) (.v 5))) (.ret [(.n 0), (.n 0)]) (.lt (.band .i64 (.v 0) (.n 255)) (.lt (.band .i64 (.v 1) (.n 255)) (.ret [(.v 6), (.v 7)]))))))))))
theorem q46 : sxFunc (Cf [] unAll) 200 46 sg46 = t46 := by kernel_rfl
def p46 : Sp := (46, sg46, broughtS)
theorem e46 : Ent p46 := ent_of unAll (l := []) ents_nil q46 fun args rs h hl => by
  match args, hl with
  | [lo, hi, ov, k], _ =>
    simp only [broughtS] at h
    split at h
    · rename_i hr
      cases h
      refine ⟨0, ?_⟩
      obtain ⟨rfl | rfl, h1, h2⟩ := hr
      · by_cases c : ov = 0
        · rw [if_pos c, br_1 ⟨h1, h2⟩]; simp [t46, T.den, B.den, A.den, E.den, Cm.den, c]
        · rw [if_neg c]; simp [t46, T.den, B.den, A.den, E.den, Cm.den, c, fullL, fullH]
      · by_cases c : ov = 0
        · rw [if_pos c, br_2 ⟨h1, h2⟩]
          by_cases e : lo / 256 = hi / 256 <;> simp [t46, T.den, B.den, A.den, E.den, Cm.den, c, shr8, shr8', and255, e]
        · rw [if_neg c]; simp [t46, T.den, B.den, A.den, E.den, Cm.den, c, fullL, fullH]
    · cases h
/-- Corners that are brought into a kind. -/
theorem brought_cor {k : Int} {f : Int → Int → Int} {a b c d : Int} (hk : k = 1 ∨ k = 2) : ∃ lo hi ov, corR f a b c d = [lo, hi, ov] ∧ (ov = 0 ∨ ov = 1) ∧ broughtS [lo, hi, ov, k] = some (br k (lo4 (f a c) (f a d) (f b c) (f b d)) (hi4 (f a c) (f a d) (f b c) (f b d))) := by
  have hin : inI (lo4 (w64 (f a c)) (w64 (f a d)) (w64 (f b c)) (w64 (f b d))) ∧ inI (hi4 (w64 (f a c)) (w64 (f a d)) (w64 (f b c)) (w64 (f b d))) := in4s ⟨w64_inI _, w64_inI _, w64_inI _, w64_inI _⟩
  refine ⟨_, _, _, rfl, by unfold ov4; split <;> simp, ?_⟩
  have e : ∀ lo hi ov, inI lo ∧ inI hi → broughtS [lo, hi, ov, k] = some (if ov = 0 then br k lo hi else [fullL k, fullH k]) := fun lo hi ov h => if_pos ⟨hk, h⟩
  rw [e _ _ _ hin]
  unfold ov4
  by_cases c : inI (f a c) ∧ inI (f a d) ∧ inI (f b c) ∧ inI (f b d)
  · rw [if_pos c, if_pos rfl, w64_id c.1, w64_id c.2.1, w64_id c.2.2.1, w64_id c.2.2.2]
  · rw [if_neg c, if_neg (by decide), br_full (out4 c)]
end Go.SXR

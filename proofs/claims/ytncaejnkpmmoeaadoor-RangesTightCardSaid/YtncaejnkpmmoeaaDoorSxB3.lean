/- RANGES: remainders and amounts of shifts, of the program; what Binary answers. -/
import Derived.Test.YtncaejnkpmmoeaaDoorSxB2
set_option linter.unusedVariables false
set_option linter.unusedSimpArgs false
namespace Go.SXR
open Go Go.SX Go.Proofs Go.RowKit

/-! ### Remainders -/
def ab (x : Int) : Int := (x.natAbs : Int)
def sizesL (c d : Int) : List Int := (if c ≤ -1 then [ab c, ab (min d (-1))] else []) ++ (if 1 ≤ d then [ab (max c 1), ab d] else [])
def restL (a b c d : Int) : Int := if ab a < minL (sizesL c d) ∧ ab b < minL (sizesL c d) then a else max (min a 0) (-(maxL (sizesL c d) - 1))
def restH (a b c d : Int) : Int := if ab a < minL (sizesL c d) ∧ ab b < minL (sizesL c d) then b else min (max b 0) (maxL (sizesL c d) - 1)
def restS : List Int → Option (List Int)
  | [a, b, c, d] => if in4 a b c d ∧ a ≤ b ∧ c ≤ d ∧ (c ≤ -1 ∨ 1 ≤ d) then some [restL a b c d, restH a b c d] else none
  | _ => none
theorem sizes_in {c d x : Int} (hc : inI c) (hd : inI d) (hcd : c ≤ d) (h : x ∈ sizesL c d) : 1 ≤ x ∧ x ≤ 9223372036854775808 := by
  unfold inI at hc hd
  simp only [sizesL, List.mem_append] at h
  rcases h with h | h <;> split at h <;> first | exact absurd h List.not_mem_nil | skip
  all_goals
    simp only [List.mem_cons, List.not_mem_nil, or_false] at h
    rcases h with rfl | rfl <;> unfold ab <;> omega
theorem sizes_ne {c d : Int} (h : c ≤ -1 ∨ 1 ≤ d) : sizesL c d ≠ [] := by
  unfold sizesL
  rcases h with h | h
  · rw [if_pos h]; simp
  · rw [if_pos h]; simp
theorem maxS {c d : Int} (hc : inI c) (hd : inI d) (hcd : c ≤ d) (h : c ≤ -1 ∨ 1 ≤ d) : 1 ≤ maxL (sizesL c d) ∧ maxL (sizesL c d) ≤ 9223372036854775808 := sizes_in hc hd hcd (maxL_mem (sizes_ne h))
theorem meetQ {c d : Int} (hc : inI c) (hcd : c ≤ d) (h : c ≤ -1) : meet3S [c, d, -9223372036854775808, -1] = some [c, min d (-1), 1] := by
  unfold inI at hc
  simp only [meet3S]
  rw [if_neg (by omega), if_neg (by omega), if_neg (by omega), show max c (-9223372036854775808) = c by omega]
theorem meetQ0 {c d : Int} (h : ¬ c ≤ -1) : meet3S [c, d, -9223372036854775808, -1] = some [0, 0, 0] := by
  simp only [meet3S]
  rw [if_pos (by omega), if_pos (by omega), if_pos (by omega)]
/-- How the end of 'rest' goes. -/
theorem rest_end {a b lo hi : Int} (hh : 1 ≤ hi ∧ hi ≤ 9223372036854775808) : w64 ((hi - 1) % 18446744073709551616) = hi - 1 ∧ w64 (0 - (hi - 1)) = -(hi - 1) := by
  constructor
  · rw [show (hi - 1) % 18446744073709551616 = hi - 1 by omega]; exact w64_id (by unfold inI; omega)
  · rw [w64_id (by unfold inI; omega)]; omega
theorem max_lt {x y z : Int} : (max x y < z) = (x < z ∧ y < z) := by
  apply propext; omega
def sg69 : Sig := ⟨[(.agg [.int .i64, .int .i64]), (.agg [.int .i64, .int .i64])], [(.agg [.int .i64, .int .i64])]⟩
def t69 : T := (.call 32 [(.v 2), (.v 3), (.n (-9223372036854775808)), (.n (-1))] 3 (.br (.not (.cmp .eq (.v 6) (.n 0))) (.call 90 [(.v 4)] 1 (.call 90 [(.v 5)] 1 (.call 32 [(.v 2), (.v 3), (.n 1), (.n 9223372036854775807)] 3 (.br (.not (.cmp .eq (.v 11) (.n 0))) (.call 90 [(.v 9)] 1 (.call 90 [(.v 10)] 1 (.lt (.mn (.v 7) (.v 7)) (.lt (.mx (.v 7) (.v 7)) (.lt (.mn (.v 14) (.v 8)) (.lt (.mx (.v 15) (.v 8)) (.lt (.mn (.v 16) (.v 12)) (.lt (.mx (.v 17) (.v 12)) (.lt (.mn (.v 18) (.v 13)) (.lt (.mx (.v 19) (.v 13)) (.call 90 [(.v 0)] 1 (.call 90 [(.v 1)] 1 (.lt (.mx (.v 22) (.v 23)) (.br (.cmp .lt (.v 24) (.v 20)) (.ret [(.v 0), (.v 1)]) (.lt (.sub .u64 (.v 21) (.n 1)) (.lt (.wrap .i64 (.v 25)) (.lt (.mn (.v 0) (.n 0)) (.lt (.neg .i64 (.v 26)) (.lt (.mx (.v 27) (.v 28)) (.lt (.mx (.v 1) (.n 0)) (.lt (.mn (.v 30) (.v 26)) (.ret [(.v 29), (.v 31)])))))))))))))))))))))) (.lt (.mn (.v 7) (.v 7)) (.lt (.mx (.v 7) (.v 7)) (.lt (.mn (.v 12) (.v 8)) (.lt (.mx (.v 13) (.v 8)) (.call 90 [(.v 0)] 1 (.call 90 [(.v 1)] 1 (.lt (.mx (.v 16) (.v 17)) (.br (.cmp .lt (.v 18) (.v 14)) (.ret [(.v 0), (.v 1)]) (.lt (.sub .u64 (.v 15) (.n 1)) (.lt (.wrap .i64 (.v 19)) (.lt (.mn (.v 0) (.n 0)) (.lt (.neg .i64 (.v 20)) (.lt (.mx (.v 21) (.v 22)) (.lt (.mx (.v 1) (.n 0)) (.lt (.mn (.v 24) (.v 20)) (.ret [(.v 23), (.v 25)])))))))))))))))))))) (.call 32 [(.v 2), (.v 3), (.n 1), (.n 9223372036854775807)] 3 (.br (.not (.cmp .eq (.v 9) (.n 0))) (.call 90 [(.v 7)] 1 (.call 90 [(.v 8)] 1 (.lt (.mn (.v 10) (.v 10)) (.lt (.mx (.v 10) (.v 10)) (.lt (.mn (.v 12) (.v 11)) (.lt (.mx (.v 13) (.v 11)) (.call 90 [(.v 0)] 1 (.call 90 [(.v 1)] 1 (.lt (.mx (.v 16) (.v 17)) (.br (.cmp .lt (.v 18) (.v 14)) (.ret [(.v 0), (.v 1)]) (.lt (.sub .u64 (.v 15) (.n 1)) (.lt (.wrap .i64 (.v 19)) (.lt (.mn (.v 0) (.n 0)) (.lt (.neg .i64 (.v 20)) (.lt (.mx (.v 21) (.v 22)) (.lt (.mx (.v 1) (.n 0)) (.lt (.mn (.v 24) (.v 20)) (.ret [(.v 23), (.v 25)])))))))))))))))))) (.fail 140)))))
theorem q69 : sxFunc (Cf [p32, p90] unAll) 200 69 sg69 = t69 := by kernel_rfl
theorem c69 {F : Nat → List Int → Option (List Int)} {a b c d : Int} (g32 : F 32 = meet3S) (g90 : F 90 = sizeS) (hr : in4 a b c d) (hab : a ≤ b) (hcd : c ≤ d) (hs : c ≤ -1 ∨ 1 ≤ d) : t69.den F 0 [a, b, c, d] = some (0, [restL a b c d, restH a b c d]) := by
  obtain ⟨ha, hb, hc, hd⟩ := hr
  have hz : ∀ x, inI x → sizeS [x] = some [ab x] := fun x hx => if_pos hx
  have za := hz a ha
  have zb := hz b hb
  have zc := hz c hc
  have zd := hz d hd
  obtain ⟨m1, m2⟩ := rest_end (a := a) (b := b) (lo := 0) (maxS hc hd hcd hs)
  unfold restL restH
  by_cases n : c ≤ -1
  · have zn := hz (min d (-1)) (by unfold inI at *; omega)
    by_cases p : 1 ≤ d
    · have zp := hz (max c 1) (by unfold inI at *; omega)
      have e : sizesL c d = [ab c, ab (min d (-1)), ab (max c 1), ab d] := by unfold sizesL; rw [if_pos n, if_pos p]; rfl
      rw [e] at m1 m2 ⊢
      simp only [minL, maxL, List.foldl_cons, List.foldl_nil] at m1 m2 ⊢
      simp only [t69, T.den, B.den, A.den, E.den, Cm.den, List.map, List.getD_cons_zero, List.getD_cons_succ, List.cons_append, List.nil_append, Bool.or_eq_true, Bool.and_eq_true, Bool.not_eq_true', decide_eq_true_eq, decide_eq_false_iff_not, beq_iff_eq, beq_eq_false_iff_ne, ne_eq, g32, g90, meetQ hc hcd n, meetP hd hcd p, za, zb, zc, zd, zn, zp, mn_eq, mx_eq, min_self', max_self', wrap64, wrapU, List.length_cons, List.length_nil, Nat.zero_add, Nat.reduceAdd, if_true, m1, m2, show ¬ (1 : Int) = 0 from by decide, not_false_eq_true]
      simp only [max_lt]
      split
      · rename_i hq; simp only [hq, and_self, if_true]
      · rename_i hq; simp only [hq, if_false]
    · have e : sizesL c d = [ab c, ab (min d (-1))] := by unfold sizesL; rw [if_pos n, if_neg p]; rfl
      rw [e] at m1 m2 ⊢
      simp only [minL, maxL, List.foldl_cons, List.foldl_nil] at m1 m2 ⊢
      simp only [t69, T.den, B.den, A.den, E.den, Cm.den, List.map, List.getD_cons_zero, List.getD_cons_succ, List.cons_append, List.nil_append, Bool.or_eq_true, Bool.and_eq_true, Bool.not_eq_true', decide_eq_true_eq, decide_eq_false_iff_not, beq_iff_eq, beq_eq_false_iff_ne, ne_eq, g32, g90, meetQ hc hcd n, meetP0 p, za, zb, zc, zd, zn, mn_eq, mx_eq, min_self', max_self', wrap64, wrapU, List.length_cons, List.length_nil, Nat.zero_add, Nat.reduceAdd, if_true, m1, m2, show ¬ (1 : Int) = 0 from by decide, not_false_eq_true, not_true_eq_false, if_false]
      simp only [max_lt]
      split
      · rename_i hq; simp only [hq, and_self, if_true]
      · rename_i hq; simp only [hq, if_false]
  · have p : 1 ≤ d := by omega
    have zp := hz (max c 1) (by unfold inI at *; omega)
    have e : sizesL c d = [ab (max c 1), ab d] := by unfold sizesL; rw [if_neg n, if_pos p]; rfl
    rw [e] at m1 m2 ⊢
    simp only [minL, maxL, List.foldl_cons, List.foldl_nil] at m1 m2 ⊢
    simp only [t69, T.den, B.den, A.den, E.den, Cm.den, List.map, List.getD_cons_zero, List.getD_cons_succ, List.cons_append, List.nil_append, Bool.or_eq_true, Bool.and_eq_true, Bool.not_eq_true', decide_eq_true_eq, decide_eq_false_iff_not, beq_iff_eq, beq_eq_false_iff_ne, ne_eq, g32, g90, meetQ0 n, meetP hd hcd p, za, zb, zc, zd, zp, mn_eq, mx_eq, min_self', max_self', wrap64, wrapU, List.length_cons, List.length_nil, Nat.zero_add, Nat.reduceAdd, if_true, m1, m2, show ¬ (1 : Int) = 0 from by decide, not_false_eq_true, not_true_eq_false, if_false]
    simp only [max_lt]
    split
    · rename_i hq; simp only [hq, and_self, if_true]
    · rename_i hq; simp only [hq, if_false]
def p69 : Sp := (69, sg69, restS)
theorem e69 : Ent p69 := ent_of unAll (l := [p32, p90]) (ents_cons e32 (ents_cons e90 ents_nil)) q69 fun args rs h hl => by
  match args, hl with
  | [a, b, c, d], _ =>
    simp only [restS] at h
    split at h
    · rename_i hr
      cases h
      exact ⟨0, c69 rfl rfl hr.1 hr.2.1 hr.2.2.1 hr.2.2.2⟩
    · cases h

/-! ### Amounts of shifts -/
def topK (k : Int) : Int := if k = 2 then 7 else 63
def shSome (k c d : Int) : Prop := max c 0 ≤ min d (topK k)
instance (k c d : Int) : Decidable (shSome k c d) := by unfold shSome; infer_instance
def shU (k c d : Int) : Int := if c < 0 ∨ topK k < d then 1 else 0
def amountS : List Int → Option (List Int)
  | [k, c, d] => some (if shSome k c d then [0, 0, 1, 0, shU k c d, max c 0, min d (topK k)] else [0, 0, 0, 0, shU k c d, 0, 0])
  | _ => none
def sg71 : Sig := ⟨[I, (.agg [.int .i64, .int .i64])], [(.agg [.int .i64, .int .i64, .bool, .bool, .bool]), (.agg [.int .i64, .int .i64])]⟩
def t71 : T := (.br (.cmp .eq (.v 0) (.n 2)) (.call 32 [(.v 1), (.v 2), (.n 0), (.n 7)] 3 (.lt (.sel (.not (.cmp .eq (.v 5) (.n 0))) (.n 1) (.n 0)) (.lt (.sel (.or (.cmp .lt (.v 1) (.n 0)) (.cmp .lt (.n 7) (.v 2))) (.n 1) (.n 0)) (.ret [(.n 0), (.n 0), (.v 6), (.n 0), (.v 7), (.v 3), (.v 4)])))) (.call 32 [(.v 1), (.v 2), (.n 0), (.n 63)] 3 (.lt (.sel (.not (.cmp .eq (.v 5) (.n 0))) (.n 1) (.n 0)) (.lt (.sel (.or (.cmp .lt (.v 1) (.n 0)) (.cmp .lt (.n 63) (.v 2))) (.n 1) (.n 0)) (.ret [(.n 0), (.n 0), (.v 6), (.n 0), (.v 7), (.v 3), (.v 4)])))))
theorem q71 : sxFunc (Cf [p32] unAll) 200 71 sg71 = t71 := by kernel_rfl
def p71 : Sp := (71, sg71, amountS)
theorem e71 : Ent p71 := ent_of unAll (l := [p32]) (ents_cons e32 ents_nil) q71 fun args rs h hl => by
  match args, hl with
  | [k, c, d], _ =>
    simp only [amountS] at h
    cases h
    refine ⟨0, ?_⟩
    have g32 : fOf [p32] 32 = meet3S := rfl
    unfold shSome shU topK
    by_cases hk : k = 2
    · by_cases hm : min d 7 < max c 0
      · simp [t71, T.den, B.den, A.den, E.den, Cm.den, hk, g32, meet3S, hm, show ¬ max c 0 ≤ min d 7 by omega]
      · simp [t71, T.den, B.den, A.den, E.den, Cm.den, hk, g32, meet3S, hm, show max c 0 ≤ min d 7 by omega]
    · by_cases hm : min d 63 < max c 0
      · simp [t71, T.den, B.den, A.den, E.den, Cm.den, hk, g32, meet3S, hm, show ¬ max c 0 ≤ min d 63 by omega]
      · simp [t71, T.den, B.den, A.den, E.den, Cm.den, hk, g32, meet3S, hm, show max c 0 ≤ min d 63 by omega]

/-! ### What Binary answers -/
def fitsB (op k : Int) : Prop := ((1 ≤ op ∧ op ≤ 10 ∨ 13 ≤ op ∧ op ≤ 16) ∧ (k = 1 ∨ k = 2)) ∨ ((op = 11 ∨ op = 12) ∧ (k = 1 ∨ k = 2 ∨ k = 3)) ∨ ((op = 17 ∨ op = 18) ∧ k = 3)
instance (op k : Int) : Decidable (fitsB op k) := by unfold fitsB; infer_instance
def okB (op k a b c d : Int) : Prop := fitsB op k ∧ okR k a b ∧ okR k c d
instance (op k a b c d : Int) : Decidable (okB op k a b c d) := by unfold okB; infer_instance
def andB (x y : Int) : Int := bitsOf .i64 (fun a b => a &&& b) x y
def orB (x y : Int) : Int := bitsOf .i64 (fun a b => a ||| b) x y
def xorB (x y : Int) : Int := bitsOf .i64 (fun a b => a ^^^ b) x y
def topV (m : Int) : Int := p2 (lenV m) - 1
def br (k lo hi : Int) : List Int := [brL k lo hi, brH k lo hi]
def cmpA (op a b c d : Int) : Prop := if op = 11 then (a = b ∧ c = d) ∧ a = c else if op = 12 then b < c ∨ d < a else if op = 13 then b < c else if op = 14 then b ≤ c else if op = 15 then d < a else d ≤ a
instance (op a b c d : Int) : Decidable (cmpA op a b c d) := by unfold cmpA; infer_instance
def cmpN (op a b c d : Int) : Prop := if op = 11 then b < c ∨ d < a else if op = 12 then (a = b ∧ c = d) ∧ a = c else if op = 13 then d ≤ a else if op = 14 then d < a else if op = 15 then b ≤ c else b < c
instance (op a b c d : Int) : Decidable (cmpN op a b c d) := by unfold cmpN; infer_instance
def andR (k a b c d : Int) : List Int := if a = b ∧ c = d then [andB a c, andB a c] else if 0 ≤ a ∧ 0 ≤ c then [0, min b d] else if 0 ≤ a then [0, b] else if 0 ≤ c then [0, d] else [fullL k, fullH k]
def xorR (k a b c d : Int) : List Int := if a = b ∧ c = d then [xorB a c, xorB a c] else if 0 ≤ a ∧ 0 ≤ c then [0, topV (max b d)] else [fullL k, fullH k]
def orR (k a b c d : Int) : List Int := if a = b ∧ c = d then [orB a c, orB a c] else if 0 ≤ a ∧ 0 ≤ c then [max a c, topV (max b d)] else [fullL k, fullH k]
def trapV (c d : Int) : Int := if c ≤ 0 ∧ 0 ≤ d then 1 else 0
def undV (k a b c d : Int) : Int := if k = 1 ∧ (a ≤ -9223372036854775808 ∧ -9223372036854775808 ≤ b) ∧ c ≤ -1 ∧ -1 ≤ d then 1 else 0
def q4 (f : Int → Int → Int) (a b c d : Int) : Int × Int := (lo4 (f a c) (f a d) (f b c) (f b d), hi4 (f a c) (f a d) (f b c) (f b d))
def shlF (v w : Int) : Int := v * p2 w
def shrF (v w : Int) : Int := v / p2 w
noncomputable def effS (op k a b c d : Int) : List Int :=
  if op = 1 then br k (q4 (· * ·) a b c d).1 (q4 (· * ·) a b c d).2 ++ [1, 0, 0]
  else if op = 2 then quotR k a b c d
  else if op = 3 then (if someD b c d then [restL a b c d, restH a b c d, 1, trapV c d, undV k a b c d] else [0, 0, 0, trapV c d, undV k a b c d])
  else if op = 4 then br k (a + c) (b + d) ++ [1, 0, 0]
  else if op = 5 then br k (a - d) (b - c) ++ [1, 0, 0]
  else if op = 6 then (if shSome k c d then br k (q4 shlF a b (max c 0) (min d (topK k))).1 (q4 shlF a b (max c 0) (min d (topK k))).2 ++ [1, 0, shU k c d] else [0, 0, 0, 0, shU k c d])
  else if op = 7 then (if shSome k c d then [(q4 shrF a b (max c 0) (min d (topK k))).1, (q4 shrF a b (max c 0) (min d (topK k))).2, 1, 0, shU k c d] else [0, 0, 0, 0, shU k c d])
  else if op = 8 then andR k a b c d ++ [1, 0, 0]
  else if op = 9 then xorR k a b c d ++ [1, 0, 0]
  else if op = 10 then orR k a b c d ++ [1, 0, 0]
  else if op = 17 then [a * c, b * d, 1, 0, 0]
  else if op = 18 then [max a c, max b d, 1, 0, 0]
  else [if cmpA op a b c d then 1 else 0, if cmpN op a b c d then 0 else 1, 1, 0, 0]
noncomputable def binR (op k a b c d : Int) : List Int := if okB op k a b c d then effS op k a b c d ++ [0] else [0, 0, 0, 0, 0, 2]
noncomputable def binS : List Int → Option (List Int)
  | [op, k, a, b, c, d] => if in4 a b c d then some (binR op k a b c d) else none
  | _ => none
theorem binR_no {op k a b c d : Int} (h : ¬ okB op k a b c d) : binR op k a b c d = [0, 0, 0, 0, 0, 2] := if_neg h
theorem binR_ok {op k a b c d : Int} (h : okB op k a b c d) : binR op k a b c d = effS op k a b c d ++ [0] := if_pos h
theorem fitB (x : Int) : (hiW x == w64 (loW x) / 9223372036854775808) = decide (inI x) := fit_beq x
theorem len_ite {p : Prop} [Decidable p] {a b : List Int} {n : Nat} (h1 : a.length = n) (h2 : b.length = n) : (if p then a else b).length = n := by split <;> assumption
theorem len_and (k a b c d : Int) : (andR k a b c d).length = 2 := by unfold andR; exact len_ite rfl (len_ite rfl (len_ite rfl (len_ite rfl rfl)))
theorem len_xor (k a b c d : Int) : (xorR k a b c d).length = 2 := by unfold xorR; exact len_ite rfl (len_ite rfl rfl)
theorem len_or (k a b c d : Int) : (orR k a b c d).length = 2 := by unfold orR; exact len_ite rfl (len_ite rfl rfl)
theorem eff_len (op k a b c d : Int) : (effS op k a b c d).length = 5 := by
  unfold effS
  refine len_ite rfl (len_ite rfl (len_ite (len_ite rfl rfl) (len_ite rfl (len_ite rfl (len_ite (len_ite rfl rfl) (len_ite (len_ite rfl rfl) (len_ite ?_ (len_ite ?_ (len_ite ?_ (len_ite rfl (len_ite rfl rfl)))))))))))
  · rw [List.length_append, len_and]; rfl
  · rw [List.length_append, len_xor]; rfl
  · rw [List.length_append, len_or]; rfl
theorem len6 : ∀ {l : List Int}, l.length = 6 → ∃ x0 x1 x2 x3 x4 x5, l = [x0, x1, x2, x3, x4, x5]
  | [a, b, c, d, e, f], _ => ⟨a, b, c, d, e, f, rfl⟩
theorem bin_form (op k a b c d : Int) : ∃ x0 x1 x2 x3 x4 x5, binR op k a b c d = [x0, x1, x2, x3, x4, x5] := by
  refine len6 ?_
  unfold binR
  exact len_ite (by rw [List.length_append, eff_len]; rfl) rfl
end Go.SXR

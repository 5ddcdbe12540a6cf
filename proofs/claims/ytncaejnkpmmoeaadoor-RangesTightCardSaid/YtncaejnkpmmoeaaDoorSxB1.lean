/- RANGES: numbers of 128 bits, of the program: sums, opposites, products, shifts; the number of bits. -/
import Derived.Test.YtncaejnkpmmoeaaDoorSxM1
import Derived.Test.YtncaejnkpmmoeaaDoorSxRU
set_option linter.unusedVariables false
set_option linter.unusedSimpArgs false
namespace Go.SXR
open Go Go.SX Go.Proofs Go.RowKit

/-! ### Sums and opposites -/
def inL (l : Int) : Prop := 0 ≤ l ∧ l < 18446744073709551616
instance (l : Int) : Decidable (inL l) := by unfold inL; infer_instance
theorem add64_eq {x y c : Int} (h : 0 ≤ x ∧ 0 ≤ y ∧ 0 ≤ c ∧ c ≤ 1) : add64S [x, y, c] = some [(x + y + c) % 18446744073709551616, (x + y + c) / 18446744073709551616] := if_pos h
def plusS : List Int → Option (List Int)
  | [h1, l1, h2, l2] => if inL l1 ∧ inL l2 then some [w64 (h1 + h2 + (l1 + l2) / 18446744073709551616), (l1 + l2) % 18446744073709551616] else none
  | _ => none
def sg60 : Sig := ⟨[(.agg [.int .i64, .int .u64]), (.agg [.int .i64, .int .u64])], [(.agg [.int .i64, .int .u64])]⟩
def t60 : T := (.call 88 [(.v 1), (.v 3), (.n 0)] 2 (.lt (.add .i64 (.v 0) (.v 2)) (.lt (.wrap .i64 (.v 5)) (.lt (.add .i64 (.v 6) (.v 7)) (.ret [(.v 8), (.v 4)])))))
theorem q60 : sxFunc (Cf [p88] unAll) 200 60 sg60 = t60 := by kernel_rfl
def p60 : Sp := (60, sg60, plusS)
theorem e60 : Ent p60 := ent_of unAll (l := [p88]) (ents_cons e88 ents_nil) q60 fun args rs h hl => by
  match args, hl with
  | [h1, l1, h2, l2], _ =>
    simp only [plusS] at h
    split at h
    · rename_i hr
      cases h
      refine ⟨0, ?_⟩
      have g88 : fOf [p88] 88 = add64S := rfl
      unfold inL at hr
      have e := add64_eq (x := l1) (y := l2) (c := 0) (by omega)
      simp only [t60, T.den, B.den, A.den, E.den, Cm.den, List.map, List.getD_cons_zero, List.getD_cons_succ, List.cons_append, List.nil_append, Bool.or_eq_true, Bool.and_eq_true, Bool.not_eq_true', decide_eq_true_eq, decide_eq_false_iff_not, beq_iff_eq, beq_eq_false_iff_ne, ne_eq, g88, e, wrap64, List.length_cons, List.length_nil, Nat.zero_add, Nat.reduceAdd, if_true, Int.add_zero]
      have : w64 (w64 (h1 + h2) + w64 ((l1 + l2) / 18446744073709551616)) = w64 (h1 + h2 + (l1 + l2) / 18446744073709551616) := by unfold w64; omega
      rw [this]
    · cases h
def minusS : List Int → Option (List Int)
  | [h1, l1] => if inL l1 then some [w64 (-h1 + (-l1) / 18446744073709551616), (-l1) % 18446744073709551616] else none
  | _ => none
def sg45 : Sig := ⟨[(.agg [.int .i64, .int .u64])], [(.agg [.int .i64, .int .u64])]⟩
def t45 : T := (.lt (.com .i64 (.v 0)) (.lt (.com .u64 (.v 1)) (.call 88 [(.v 3), (.n 1), (.n 0)] 2 (.lt (.add .i64 (.v 2) (.n 0)) (.lt (.wrap .i64 (.v 5)) (.lt (.add .i64 (.v 6) (.v 7)) (.ret [(.v 8), (.v 4)])))))))
theorem q45 : sxFunc (Cf [p88] unAll) 200 45 sg45 = t45 := by kernel_rfl
def p45 : Sp := (45, sg45, minusS)
theorem e45 : Ent p45 := ent_of unAll (l := [p88]) (ents_cons e88 ents_nil) q45 fun args rs h hl => by
  match args, hl with
  | [h1, l1], _ =>
    simp only [minusS] at h
    split at h
    · rename_i hr
      cases h
      refine ⟨0, ?_⟩
      have g88 : fOf [p88] 88 = add64S := rfl
      unfold inL at hr
      have e := add64_eq (x := (-1 - l1) % 18446744073709551616) (y := 1) (c := 0) (by omega)
      simp only [t45, T.den, B.den, A.den, E.den, Cm.den, List.map, List.getD_cons_zero, List.getD_cons_succ, List.cons_append, List.nil_append, Bool.or_eq_true, Bool.and_eq_true, Bool.not_eq_true', decide_eq_true_eq, decide_eq_false_iff_not, beq_iff_eq, beq_eq_false_iff_ne, ne_eq, g88, maxU, maxI, com64, comU, e, wrap64, List.length_cons, List.length_nil, Nat.zero_add, Nat.reduceAdd, if_true, Int.add_zero]
      have e1 : ((-1 - l1) % 18446744073709551616 + 1) % 18446744073709551616 = (-l1) % 18446744073709551616 := by omega
      have e2 : w64 (w64 (w64 (-1 - h1)) + w64 (((-1 - l1) % 18446744073709551616 + 1) / 18446744073709551616)) = w64 (-h1 + (-l1) / 18446744073709551616) := by unfold w64; omega
      rw [e1, e2]
    · cases h

/-! ### Absolute values -/
theorem w64u (x : Int) (h : inI x) : (0 - x % 18446744073709551616) % 18446744073709551616 = (-x) % 18446744073709551616 := by omega
def sizeS : List Int → Option (List Int)
  | [x] => if inI x then some [(x.natAbs : Int)] else none
  | _ => none
def sg90 : Sig := ⟨[I], [U]⟩
def t90 : T := (.br (.cmp .lt (.v 0) (.n 0)) (.lt (.wrap .u64 (.v 0)) (.lt (.neg .u64 (.v 1)) (.ret [(.v 2)]))) (.lt (.wrap .u64 (.v 0)) (.ret [(.v 1)])))
theorem q90 : sxFunc (Cf [] unAll) 200 90 sg90 = t90 := by kernel_rfl
def p90 : Sp := (90, sg90, sizeS)
theorem e90 : Ent p90 := ent_of unAll (l := []) ents_nil q90 fun args rs h hl => by
  match args, hl with
  | [x], _ =>
    simp only [sizeS] at h
    split at h
    · rename_i hr
      cases h
      refine ⟨0, ?_⟩
      simp only [t90, T.den, B.den, A.den, E.den, Cm.den, List.map, List.getD_cons_zero, List.getD_cons_succ, List.cons_append, List.nil_append, Bool.or_eq_true, Bool.and_eq_true, Bool.not_eq_true', decide_eq_true_eq, decide_eq_false_iff_not, beq_iff_eq, beq_eq_false_iff_ne, ne_eq, wrapU]
      unfold inI at hr
      split
      · have e : (0 - x % 18446744073709551616) % 18446744073709551616 = x.natAbs := by omega
        rw [e]
      · have e : x % 18446744073709551616 = x.natAbs := by omega
        rw [e]
    · cases h
def sg104 : Sig := ⟨[I], [U]⟩
def t104 : T := (.br (.cmp .lt (.v 0) (.n 0)) (.lt (.add .i64 (.v 0) (.n 1)) (.lt (.neg .i64 (.v 1)) (.lt (.wrap .u64 (.v 2)) (.lt (.add .u64 (.v 3) (.n 1)) (.ret [(.v 4)]))))) (.lt (.wrap .u64 (.v 0)) (.ret [(.v 1)])))
theorem q104 : sxFunc (Cf [] unAll) 200 104 sg104 = t104 := by kernel_rfl
def p104 : Sp := (104, sg104, sizeS)
theorem e104 : Ent p104 := ent_of unAll (l := []) ents_nil q104 fun args rs h hl => by
  match args, hl with
  | [x], _ =>
    simp only [sizeS] at h
    split at h
    · rename_i hr
      cases h
      refine ⟨0, ?_⟩
      simp only [t104, T.den, B.den, A.den, E.den, Cm.den, List.map, List.getD_cons_zero, List.getD_cons_succ, List.cons_append, List.nil_append, Bool.or_eq_true, Bool.and_eq_true, Bool.not_eq_true', decide_eq_true_eq, decide_eq_false_iff_not, beq_iff_eq, beq_eq_false_iff_ne, ne_eq, wrapU, wrap64]
      unfold inI at hr
      split
      · have e : (w64 (0 - w64 (x + 1)) % 18446744073709551616 + 1) % 18446744073709551616 = x.natAbs := by unfold w64; omega
        rw [e]
      · have e : x % 18446744073709551616 = x.natAbs := by omega
        rw [e]
    · cases h

/-! ### Products -/
theorem shr32 (x : Int) : Int.fdiv x (2 ^ (min (32 : Int).toNat IntKind.u64.bits)) = x / 4294967296 := by
  have e : (2 : Int) ^ (min (32 : Int).toNat IntKind.u64.bits) = 4294967296 := by decide
  rw [e, Int.fdiv_eq_ediv_of_nonneg _ (by decide)]
theorem and32 (x : Int) : bitsOf .u64 (fun a b => a &&& b) x 4294967295 = x % 4294967296 := by
  show IntKind.wrap .u64 ((BitVec.ofInt 64 x &&& BitVec.ofInt 64 4294967295).toNat : Int) = x % 4294967296
  have e : (BitVec.ofInt 64 4294967295).toNat = 2 ^ 32 - 1 := by decide
  rw [BitVec.toNat_and, e, Nat.and_two_pow_sub_one_eq_mod, ofInt_toNat, wrapU]
  omega
/-- The parts of a number of 128 bits. -/
def hiW (x : Int) : Int := x / 18446744073709551616
def loW (x : Int) : Int := x % 18446744073709551616
def mul64S : List Int → Option (List Int)
  | [x, y] => if inL x ∧ inL y then some [hiW (x * y), loW (x * y)] else none
  | _ => none
theorem mul_lt32 {x y : Int} (hx : 0 ≤ x ∧ x < 4294967296) (hy : 0 ≤ y ∧ y < 4294967296) : 0 ≤ x * y ∧ x * y ≤ 18446744065119617025 := by
  refine ⟨Int.mul_nonneg hx.1 hy.1, ?_⟩
  have h1 := Int.mul_le_mul (show x ≤ 4294967295 by omega) (show y ≤ 4294967295 by omega) hy.1 (by decide)
  omega
theorem mul_parts (x y : Int) : x * y = (x / 4294967296) * (y / 4294967296) * 18446744073709551616 + ((x / 4294967296) * (y % 4294967296) + (x % 4294967296) * (y / 4294967296)) * 4294967296 + (x % 4294967296) * (y % 4294967296) := by
  have hx : x = x / 4294967296 * 4294967296 + x % 4294967296 := by omega
  have hy : y = y / 4294967296 * 4294967296 + y % 4294967296 := by omega
  generalize x / 4294967296 = p at *
  generalize x % 4294967296 = q at *
  generalize y / 4294967296 = r at *
  generalize y % 4294967296 = s at *
  subst hx; subst hy
  grind
def sg89 : Sig := ⟨[U, U], [U, U]⟩
def t89 : T := (.lt (.band .u64 (.v 0) (.n 4294967295)) (.lt (.shr .u64 (.v 0) (.n 32)) (.lt (.band .u64 (.v 1) (.n 4294967295)) (.lt (.shr .u64 (.v 1) (.n 32)) (.lt (.mul .u64 (.v 2) (.v 4)) (.lt (.mul .u64 (.v 3) (.v 4)) (.lt (.shr .u64 (.v 6) (.n 32)) (.lt (.add .u64 (.v 7) (.v 8)) (.lt (.band .u64 (.v 9) (.n 4294967295)) (.lt (.shr .u64 (.v 9) (.n 32)) (.lt (.mul .u64 (.v 2) (.v 5)) (.lt (.add .u64 (.v 10) (.v 12)) (.lt (.mul .u64 (.v 3) (.v 5)) (.lt (.add .u64 (.v 14) (.v 11)) (.lt (.shr .u64 (.v 13) (.n 32)) (.lt (.add .u64 (.v 15) (.v 16)) (.lt (.mul .u64 (.v 0) (.v 1)) (.ret [(.v 17), (.v 18)]))))))))))))))))))
theorem q89 : sxFunc (Cf [] unAll) 200 89 sg89 = t89 := by kernel_rfl
def p89 : Sp := (89, sg89, mul64S)
theorem e89 : Ent p89 := ent_of unAll (l := []) ents_nil q89 fun args rs h hl => by
  match args, hl with
  | [x, y], _ =>
    simp only [mul64S] at h
    split at h
    · rename_i hr
      cases h
      refine ⟨0, ?_⟩
      unfold inL at hr
      simp only [t89, T.den, B.den, A.den, E.den, Cm.den, List.map, List.getD_cons_zero, List.getD_cons_succ, List.cons_append, List.nil_append, Bool.or_eq_true, Bool.and_eq_true, Bool.not_eq_true', decide_eq_true_eq, decide_eq_false_iff_not, beq_iff_eq, beq_eq_false_iff_ne, ne_eq, wrapU, shr32, and32]
      have hp := mul_parts x y
      have a0 := mul_lt32 (x := x % 4294967296) (y := y % 4294967296) (by omega) (by omega)
      have b0 := mul_lt32 (x := x / 4294967296) (y := y % 4294967296) (by omega) (by omega)
      have c0 := mul_lt32 (x := x % 4294967296) (y := y / 4294967296) (by omega) (by omega)
      have d0 := mul_lt32 (x := x / 4294967296) (y := y / 4294967296) (by omega) (by omega)
      generalize (x % 4294967296) * (y % 4294967296) = A at *
      generalize (x / 4294967296) * (y % 4294967296) = B at *
      generalize (x % 4294967296) * (y / 4294967296) = C at *
      generalize (x / 4294967296) * (y / 4294967296) = D at *
      unfold hiW loW
      rw [hp]
      simp only [Option.some.injEq, Prod.mk.injEq, List.cons.injEq, and_true, true_and]
      omega
    · cases h
theorem w64_inI (x : Int) : inI (w64 x) := by unfold w64 inI; omega
theorem loW_in (x : Int) : inL (loW x) := by unfold inL loW; omega
theorem w64_loW {x : Int} (h : inI x) : w64 (loW x) = x := w64_mod h
theorem shr63_hiW {x : Int} (h : inI x) : x / 9223372036854775808 = hiW x := by unfold inI at h; unfold hiW; omega
theorem hiW_neg {x : Int} : hiW x < 0 ↔ x < 0 := by unfold hiW; omega
def big (x : Int) : Prop := -170141183460469231731687303715884105728 ≤ x ∧ x < 170141183460469231731687303715884105728
theorem w64_hiW {x : Int} (h : big x) : w64 (hiW x) = hiW x := by unfold big at h; unfold hiW w64; omega
theorem minus_w {x : Int} (h : big (-x)) : minusS [hiW x, loW x] = some [hiW (-x), loW (-x)] := by
  have e : minusS [hiW x, loW x] = some [w64 (-hiW x + (-loW x) / 18446744073709551616), (-loW x) % 18446744073709551616] := if_pos (loW_in x)
  rw [e, ← w64_hiW h]
  have e1 : -hiW x + (-loW x) / 18446744073709551616 = hiW (-x) := by unfold hiW loW; omega
  have e2 : (-loW x) % 18446744073709551616 = loW (-x) := by unfold loW; omega
  rw [e1, e2]
theorem plus_w {x y : Int} (h : big (x + y)) : plusS [hiW x, loW x, hiW y, loW y] = some [hiW (x + y), loW (x + y)] := by
  have e : plusS [hiW x, loW x, hiW y, loW y] = some [w64 (hiW x + hiW y + (loW x + loW y) / 18446744073709551616), (loW x + loW y) % 18446744073709551616] := if_pos ⟨loW_in x, loW_in y⟩
  rw [e, ← w64_hiW h]
  have e1 : hiW x + hiW y + (loW x + loW y) / 18446744073709551616 = hiW (x + y) := by unfold hiW loW; omega
  have e2 : (loW x + loW y) % 18446744073709551616 = loW (x + y) := by unfold loW; omega
  rw [e1, e2]
def wideOk (h l : Int) : Prop := inL l ∧ h = hiW (w64 l)
instance (h l : Int) : Decidable (wideOk h l) := by unfold wideOk; infer_instance
theorem wideOk_of {x : Int} (h : inI x) : wideOk (hiW x) (loW x) := ⟨loW_in x, by rw [w64_loW h]⟩
def timesS : List Int → Option (List Int)
  | [h, l, v] => if wideOk h l ∧ inI v then some [hiW (w64 l * v), loW (w64 l * v)] else none
  | _ => none
theorem abs_mul (x y : Int) : (x.natAbs : Int) * (y.natAbs : Int) = if (x < 0 ∧ y < 0) ∨ (¬ x < 0 ∧ ¬ y < 0) then x * y else -(x * y) := by
  rcases Int.natAbs_eq x with hx | hx <;> rcases Int.natAbs_eq y with hy | hy <;> generalize x.natAbs = m at * <;> generalize y.natAbs = n at * <;> subst hx <;> subst hy
  · rw [if_pos (by omega)]
  · by_cases h : n = 0
    · subst h; simp
    · rw [if_neg (by omega)]
      grind
  · by_cases h : m = 0
    · subst h; simp
    · rw [if_neg (by omega)]
      grind
  · by_cases h : m = 0
    · subst h; simp
    · by_cases h' : n = 0
      · subst h'; simp
      · rw [if_pos (by omega)]
        grind
theorem abs_bound {x y : Int} (hx : inI x) (hy : inI y) : 0 ≤ (x.natAbs : Int) * (y.natAbs : Int) ∧ (x.natAbs : Int) * (y.natAbs : Int) ≤ 85070591730234615865843651857942052864 := by
  refine ⟨Int.mul_nonneg (by omega) (by omega), ?_⟩
  unfold inI at hx hy
  exact Int.mul_le_mul (show (x.natAbs : Int) ≤ 9223372036854775808 by omega) (show (y.natAbs : Int) ≤ 9223372036854775808 by omega) (by omega) (by decide)
theorem tw1 {X v : Int} (hX : inI X) (hv : inI v) : inL (X.natAbs : Int) ∧ inL (v.natAbs : Int) := by unfold inL; unfold inI at hX hv; omega
theorem tw2 {x y : Int} (hc : inL x ∧ inL y) : mul64S [x, y] = some [hiW (x * y), loW (x * y)] := by simp only [mul64S, if_pos hc]
theorem tw3 {M : Int} (hb : 0 ≤ M ∧ M ≤ 85070591730234615865843651857942052864) : w64 (hiW M) = hiW M := w64_hiW (by unfold big; omega)
theorem tw4 {M : Int} (hb : 0 ≤ M ∧ M ≤ 85070591730234615865843651857942052864) : minusS [hiW M, loW M] = some [hiW (-M), loW (-M)] := minus_w (by unfold big; omega)
theorem tw5 {X v M : Int} (ha : M = if (X < 0 ∧ v < 0) ∨ (¬ X < 0 ∧ ¬ v < 0) then X * v else -(X * v)) : (X < 0 ∧ v < 0 → M = X * v) ∧ (¬ X < 0 ∧ ¬ v < 0 → M = X * v) ∧ (X < 0 ∧ ¬ v < 0 → -M = X * v) ∧ (¬ X < 0 ∧ v < 0 → -M = X * v) := by
  refine ⟨fun h => ?_, fun h => ?_, fun h => ?_, fun h => ?_⟩
  · rw [ha, if_pos (.inl h)]
  · rw [ha, if_pos (.inr h)]
  · rw [ha, if_neg (by omega), Int.neg_neg]
  · rw [ha, if_neg (by omega), Int.neg_neg]
theorem times_w {X v : Int} (hX : inI X) (hv : inI v) : ∃ M : Int, mul64S [(X.natAbs : Int), (v.natAbs : Int)] = some [hiW M, loW M] ∧ w64 (hiW M) = hiW M ∧ minusS [hiW M, loW M] = some [hiW (-M), loW (-M)] ∧
    ((X < 0 ∧ v < 0 → M = X * v) ∧ (¬ X < 0 ∧ ¬ v < 0 → M = X * v) ∧ (X < 0 ∧ ¬ v < 0 → -M = X * v) ∧ (¬ X < 0 ∧ v < 0 → -M = X * v)) :=
  ⟨_, tw2 (tw1 hX hv), tw3 (abs_bound hX hv), tw4 (abs_bound hX hv), tw5 (abs_mul X v)⟩
def sg65 : Sig := ⟨[(.agg [.int .i64, .int .u64]), I], [(.agg [.int .i64, .int .u64])]⟩
def t65 : T := (.lt (.wrap .i64 (.v 1)) (.call 90 [(.v 3)] 1 (.call 90 [(.v 2)] 1 (.call 89 [(.v 4), (.v 5)] 2 (.lt (.wrap .i64 (.v 6)) (.br (.not (.or (.and (.cmp .lt (.v 0) (.n 0)) (.cmp .lt (.v 2) (.n 0))) (.and (.not (.cmp .lt (.v 0) (.n 0))) (.not (.cmp .lt (.v 2) (.n 0)))))) (.call 45 [(.v 8), (.v 7)] 2 (.ret [(.v 9), (.v 10)])) (.ret [(.v 8), (.v 7)])))))))
theorem q65 : sxFunc (Cf [p89, p90, p45] unAll) 200 65 sg65 = t65 := by kernel_rfl
theorem c65 {F : Nat → List Int → Option (List Int)} {X v M l : Int} (g89 : F 89 = mul64S) (g90 : F 90 = sizeS) (g45 : F 45 = minusS) (hXe : w64 l = X) (s1 : sizeS [X] = some [(X.natAbs : Int)]) (s2 : sizeS [v] = some [(v.natAbs : Int)])
    (m1 : mul64S [(X.natAbs : Int), (v.natAbs : Int)] = some [hiW M, loW M]) (w1 : w64 (hiW M) = hiW M) (n1 : minusS [hiW M, loW M] = some [hiW (-M), loW (-M)]) (q : (X < 0 ∧ v < 0 → M = X * v) ∧ (¬ X < 0 ∧ ¬ v < 0 → M = X * v) ∧ (X < 0 ∧ ¬ v < 0 → -M = X * v) ∧ (¬ X < 0 ∧ v < 0 → -M = X * v)) :
    t65.den F 0 [hiW X, l, v] = some (0, [hiW (X * v), loW (X * v)]) := by
  obtain ⟨q1, q2, q3, q4⟩ := q
  have hn : ∀ x, (hiW x < 0) = (x < 0) := fun x => propext hiW_neg
  by_cases c1 : X < 0 <;> by_cases c2 : v < 0
  · rw [← q1 ⟨c1, c2⟩]
    simp [t65, T.den, B.den, A.den, E.den, Cm.den, g89, g90, g45, wrap64, hXe, s1, s2, m1, w1, n1, hn, c1, c2]
  · rw [← q3 ⟨c1, c2⟩]
    simp [t65, T.den, B.den, A.den, E.den, Cm.den, g89, g90, g45, wrap64, hXe, s1, s2, m1, w1, n1, hn, c1, c2]
  · rw [← q4 ⟨c1, c2⟩]
    simp [t65, T.den, B.den, A.den, E.den, Cm.den, g89, g90, g45, wrap64, hXe, s1, s2, m1, w1, n1, hn, c1, c2]
  · rw [← q2 ⟨c1, c2⟩]
    simp [t65, T.den, B.den, A.den, E.den, Cm.den, g89, g90, g45, wrap64, hXe, s1, s2, m1, w1, n1, hn, c1, c2]
theorem d65 {h0 l v : Int} {rs : List Int} (h : timesS [h0, l, v] = some rs) : wideOk h0 l ∧ inI v ∧ rs = [hiW (w64 l * v), loW (w64 l * v)] := by
  simp only [timesS] at h
  split at h
  · rename_i hr
    cases h
    exact ⟨hr.1, hr.2, rfl⟩
  · cases h
def p65 : Sp := (65, sg65, timesS)
theorem e65 : Ent p65 := ent_of unAll (l := [p89, p90, p45]) (ents_cons e89 (ents_cons e90 (ents_cons e45 ents_nil))) q65 fun args rs h hl => by
  match args, hl with
  | [h0, l, v], _ =>
    obtain ⟨⟨hl1, rfl⟩, hv, rfl⟩ := d65 h
    have hX := w64_inI l
    obtain ⟨M, m1, w1, n1, q⟩ := times_w hX hv
    exact ⟨0, c65 rfl rfl rfl rfl (if_pos hX) (if_pos hv) m1 w1 n1 q⟩

/-! ### Shifts -/
theorem iter_again {f : List Int → Option (Nat × List Int)} {K d : Nat} {s s' : List Int} (h : f s = some (d, s')) : iter (K + 1) f d s = iter K f d s' := by
  simp [iter, h]
theorem iter_stop {f : List Int → Option (Nat × List Int)} {K d e : Nat} {s s' : List Int} (h : f s = some (e, s')) (hd : e ≠ d) : iter (K + 1) f d s = some (e, s') := by
  simp [iter, h, hd]
def shiftS : List Int → Option (List Int)
  | [h, l, m] => if wideOk h l ∧ 0 ≤ m ∧ m ≤ 63 then some [hiW (w64 l * p2 m), loW (w64 l * p2 m)] else none
  | _ => none
theorem p2_le63 {m : Int} (h : m ≤ 63) : p2 m ≤ 9223372036854775808 := by
  have := p2_mono h
  have e : p2 63 = 9223372036854775808 := by decide
  omega
theorem shl_big {x m : Int} (hx : inI x) (hm : m ≤ 62) : -42535295865117307932921825928971026432 ≤ x * p2 m ∧ x * p2 m ≤ 42535295865117307932921825928971026432 := by
  have h0 := p2_pos m
  have h1 : p2 m ≤ 4611686018427387904 := by
    have := p2_mono hm
    have e : p2 62 = 4611686018427387904 := by decide
    omega
  unfold inI at hx
  generalize p2 m = P at *
  constructor
  · have := Int.mul_le_mul_of_nonneg_right (show (-9223372036854775808 : Int) ≤ x by omega) (Int.le_of_lt h0)
    omega
  · have := Int.mul_le_mul_of_nonneg_right (show x ≤ 9223372036854775808 by omega) (Int.le_of_lt h0)
    omega
theorem p2_succ {i : Int} (h : 0 ≤ i) : p2 (i + 1) = p2 i + p2 i := by
  rw [p2_add h (by decide)]
  have : p2 1 = 2 := by decide
  rw [this]; omega
def sg73 : Sig := ⟨[(.agg [.int .i64, .int .u64]), I], [(.agg [.int .i64, .int .u64])]⟩
def t73 : T := (.loop 1 [(.n 0), (.v 0), (.v 1)] (.br (.cmp .lt (.v 3) (.v 2)) (.call 60 [(.v 4), (.v 5), (.v 4), (.v 5)] 2 (.lt (.add .i64 (.v 3) (.n 1)) (.again 1 [(.v 8), (.v 6), (.v 7)]))) (.out 1 (.ret [(.v 4), (.v 5)]))))
theorem q73 : sxFunc (Cf [p60] (fun g => !(List.contains [73] g))) 200 73 sg73 = t73 := by kernel_rfl
def p73 : Sp := (73, sg73, shiftS)
theorem e73 : Ent p73 := ent_of (fun g => !(List.contains [73] g)) (l := [p60]) (ents_cons e60 ents_nil) q73 fun args rs h hl => by
  match args, hl with
  | [h0, l, m], _ =>
    simp only [shiftS] at h
    split at h
    · rename_i hr
      cases h
      obtain ⟨⟨hl1, rfl⟩, hm0, hm1⟩ := hr
      have hX : inI (w64 l) := w64_inI l
      have hll : l = loW (w64 l) := by unfold inL at hl1; unfold loW w64; omega
      generalize hXe : w64 l = X at *
      subst hll
      refine ⟨m.toNat + 1, ?_⟩
      have g60 : fOf [p60] 60 = plusS := rfl
      have key : ∀ (n : Nat) (i : Int), 0 ≤ i → i + n = m → iter (n + 1) (fun s => (T.br (.cmp .lt (.v 3) (.v 2)) (.call 60 [(.v 4), (.v 5), (.v 4), (.v 5)] 2 (.lt (.add .i64 (.v 3) (.n 1)) (.again 1 [(.v 8), (.v 6), (.v 7)]))) (.out 1 (.ret [(.v 4), (.v 5)]))).den (fOf [p60]) (m.toNat + 1) ([hiW X, loW X, m] ++ s)) 1 [i, hiW (X * p2 i), loW (X * p2 i)] = some (0, [hiW (X * p2 m), loW (X * p2 m)]) := by
        intro n
        induction n with
        | zero =>
          intro i h0 hi
          have : i = m := by omega
          subst this
          refine iter_stop ?_ (by decide)
          simp [T.den, B.den, A.den, E.den, Cm.den]
        | succ n ih =>
          intro i h0 hi
          have hb := shl_big (m := i) hX (by omega)
          have hp : plusS [hiW (X * p2 i), loW (X * p2 i), hiW (X * p2 i), loW (X * p2 i)] = some [hiW (X * p2 (i + 1)), loW (X * p2 (i + 1))] := by
            rw [p2_succ h0, Int.mul_add]
            refine plus_w ?_
            unfold big
            generalize X * p2 i = Y at *
            omega
          have hw : w64 (i + 1) = i + 1 := w64_id (by unfold inI; omega)
          refine (iter_again (s' := [i + 1, hiW (X * p2 (i + 1)), loW (X * p2 (i + 1))]) ?_).trans (ih (i + 1) (by omega) (by omega))
          have hlt : i < m := by omega
          simp [T.den, B.den, A.den, E.den, Cm.den, g60, hp, hlt, wrap64, hw]
      have := key m.toNat 0 (by omega) (by omega)
      have e0 : p2 0 = 1 := by decide
      rw [e0, Int.mul_one] at this
      simpa [t73, T.den, A.den] using this
    · cases h

/-! ### How many bits -/
def lenV (x : Int) : Int := if x ≤ 0 then 0 else Nat.log2 x.toNat + 1
def lenS : List Int → Option (List Int)
  | [x] => if inL x then some [lenV x] else none
  | _ => none
theorem len_of {x : Int} {n : Nat} (h1 : 0 < x) (h2 : 2 ^ n ≤ x) (h3 : x < 2 ^ (n + 1)) : lenV x = n + 1 := by
  obtain ⟨m, rfl⟩ := Int.eq_ofNat_of_zero_le (Int.le_of_lt h1)
  unfold lenV
  rw [if_neg (by omega)]
  have : Nat.log2 m = n := by
    refine (Nat.log2_eq_iff (by omega)).2 ⟨?_, ?_⟩
    · have h2' : ((2 ^ n : Nat) : Int) ≤ (m : Int) := by simpa using h2
      omega
    · have h3' : (m : Int) < ((2 ^ (n + 1) : Nat) : Int) := by simpa using h3
      omega
  simp [this]
theorem len_spec {x : Int} (h1 : 0 < x) : 0 < lenV x ∧ p2 (lenV x - 1) ≤ x ∧ x < p2 (lenV x) := by
  obtain ⟨m, rfl⟩ := Int.eq_ofNat_of_zero_le (Int.le_of_lt h1)
  unfold lenV
  rw [if_neg (by omega)]
  have hm : m ≠ 0 := by omega
  have h := (Nat.log2_eq_iff hm).1 rfl
  simp only [Int.toNat_natCast]
  generalize Nat.log2 m = n at *
  refine ⟨by omega, ?_, ?_⟩
  · have e : p2 ((n : Int) + 1 - 1) = ((2 ^ n : Nat) : Int) := by
      unfold p2; rw [show ((n : Int) + 1 - 1).toNat = n by omega]; simp
    rw [e]; omega
  · have e : p2 ((n : Int) + 1) = ((2 ^ (n + 1) : Nat) : Int) := by
      unfold p2; rw [show ((n : Int) + 1).toNat = n + 1 by omega]; simp
    rw [e]; omega
def len8tab : List UInt8 := [0, 1, 2, 2, 3, 3, 3, 3, 4, 4, 4, 4, 4, 4, 4, 4, 5, 5, 5, 5, 5, 5, 5, 5, 5, 5, 5, 5, 5, 5, 5, 5, 6, 6, 6, 6, 6, 6, 6, 6, 6, 6, 6, 6, 6, 6, 6, 6, 6, 6, 6, 6, 6, 6, 6, 6, 6, 6, 6, 6, 6, 6, 6, 6, 7, 7, 7, 7, 7, 7, 7, 7, 7, 7, 7, 7, 7, 7, 7, 7, 7, 7, 7, 7, 7, 7, 7, 7, 7, 7, 7, 7, 7, 7, 7, 7, 7, 7, 7, 7, 7, 7, 7, 7, 7, 7, 7, 7, 7, 7, 7, 7, 7, 7, 7, 7, 7, 7, 7, 7, 7, 7, 7, 7, 7, 7, 7, 7, 8, 8, 8, 8, 8, 8, 8, 8, 8, 8, 8, 8, 8, 8, 8, 8, 8, 8, 8, 8, 8, 8, 8, 8, 8, 8, 8, 8, 8, 8, 8, 8, 8, 8, 8, 8, 8, 8, 8, 8, 8, 8, 8, 8, 8, 8, 8, 8, 8, 8, 8, 8, 8, 8, 8, 8, 8, 8, 8, 8, 8, 8, 8, 8, 8, 8, 8, 8, 8, 8, 8, 8, 8, 8, 8, 8, 8, 8, 8, 8, 8, 8, 8, 8, 8, 8, 8, 8, 8, 8, 8, 8, 8, 8, 8, 8, 8, 8, 8, 8, 8, 8, 8, 8, 8, 8, 8, 8, 8, 8, 8, 8, 8, 8, 8, 8, 8, 8, 8, 8, 8, 8, 8, 8, 8, 8, 8, 8]
theorem len8_ok : ∀ b : Fin 256, ((len8tab.getD b.val 0).toNat : Int) = lenV (b.val : Int) := by decide +kernel
theorem len8_eq {b : Int} (h0 : 0 ≤ b) (h1 : b < 256) : ((len8tab.getD b.toNat 0).toNat : Int) = lenV b := by
  have := len8_ok ⟨b.toNat, by omega⟩
  simp only at this
  rw [this]
  congr 1; omega
theorem len_shift {x : Int} (k : Nat) (h : 0 < x / 2 ^ k) : lenV x = k + lenV (x / 2 ^ k) := by
  have hk : (0 : Int) < 2 ^ k := Int.pow_pos (by decide)
  obtain ⟨h1, h2, h3⟩ := len_spec h
  generalize hL : lenV (x / 2 ^ k) = L at *
  obtain ⟨n, hn⟩ := Int.eq_ofNat_of_zero_le (show 0 ≤ L - 1 by omega)
  have eL : L = (n : Int) + 1 := by omega
  subst eL
  have e1 : p2 ((n : Int) + 1 - 1) = 2 ^ n := by unfold p2; rw [show ((n : Int) + 1 - 1).toNat = n by omega]
  have e2 : p2 ((n : Int) + 1) = 2 ^ (n + 1) := by unfold p2; rw [show ((n : Int) + 1).toNat = n + 1 by omega]
  rw [e1] at h2
  rw [e2] at h3
  have hx := Int.mul_ediv_add_emod x (2 ^ k)
  have hm := Int.emod_nonneg x (show (2 : Int) ^ k ≠ 0 by omega)
  have hm2 := Int.emod_lt_of_pos x hk
  generalize x / 2 ^ k = q at *
  have g1 : (2 : Int) ^ (k + n) ≤ x := by
    rw [Int.pow_add]
    have := Int.mul_le_mul_of_nonneg_left h2 (Int.le_of_lt hk)
    omega
  have g2 : x < (2 : Int) ^ (k + n + 1) := by
    rw [Nat.add_assoc, Int.pow_add]
    have := Int.mul_le_mul_of_nonneg_left (show q + 1 ≤ 2 ^ (n + 1) by omega) (Int.le_of_lt hk)
    rw [Int.mul_add, Int.mul_one] at this
    omega
  have g0 : 0 < x := by have : (0 : Int) < 2 ^ (k + n) := Int.pow_pos (by decide); omega
  rw [len_of g0 g1 g2]
  omega
theorem shr16 (x : Int) : Int.fdiv x (2 ^ (min (16 : Int).toNat IntKind.u64.bits)) = x / 65536 := by
  have e : (2 : Int) ^ (min (16 : Int).toNat IntKind.u64.bits) = 65536 := by decide
  rw [e, Int.fdiv_eq_ediv_of_nonneg _ (by decide)]
theorem shr8u (x : Int) : Int.fdiv x (2 ^ (min (8 : Int).toNat IntKind.u64.bits)) = x / 256 := by
  have e : (2 : Int) ^ (min (8 : Int).toNat IntKind.u64.bits) = 256 := by decide
  rw [e, Int.fdiv_eq_ediv_of_nonneg _ (by decide)]
theorem wrap8 (n : Int) : IntKind.wrap .u8 n = n % 256 := by
  unfold IntKind.wrap
  simp only [IntKind.bits, IntKind.signed]
  have e1 : (2 : Int) ^ 8 = 256 := by decide
  simp [e1]
theorem len_le {b : Int} (h1 : b < 256) : 0 ≤ lenV b ∧ lenV b ≤ 8 := by
  by_cases h : b ≤ 0
  · unfold lenV; rw [if_pos h]; omega
  · obtain ⟨g1, g2, g3⟩ := len_spec (show 0 < b by omega)
    refine ⟨by omega, ?_⟩
    by_cases hc : 8 < lenV b
    · have := p2_mono (show 8 ≤ lenV b - 1 by omega)
      have e : p2 8 = 256 := by decide
      omega
    · omega
theorem len_byte {x : Int} {k : Nat} {b : Int} (hb : b = x / 2 ^ k) (h0 : 0 ≤ b) (h1 : b < 256) (h2 : k = 0 ∨ 0 < b) (hk : k ≤ 56) : w64 (k + w64 ((len8tab.getD (b % 256).toNat 0).toNat : Int)) = lenV x ∧ ¬ b % 256 < 0 ∧ b % 256 < 256 := by
  have e : b % 256 = b := by omega
  have hl := len_le h1
  have w1 : w64 (lenV b) = lenV b := w64_id (by unfold inI; omega)
  have w2 : w64 (k + lenV b) = k + lenV b := w64_id (by unfold inI; omega)
  rw [e, len8_eq h0 h1, w1, w2]
  refine ⟨?_, by omega, h1⟩
  rcases h2 with rfl | h2
  · simp at hb; rw [hb]; simp
  · subst hb; exact (len_shift k h2).symm
def sg97 : Sig := ⟨[U], [I]⟩
def t97 : T := (.br (.not (.cmp .lt (.v 0) (.n 4294967296))) (.lt (.shr .u64 (.v 0) (.n 32)) (.br (.not (.cmp .lt (.v 1) (.n 65536))) (.lt (.shr .u64 (.v 1) (.n 16)) (.br (.not (.cmp .lt (.v 2) (.n 256))) (.lt (.shr .u64 (.v 2) (.n 8)) (.lt (.wrap .u8 (.v 3)) (.br (.cmp .lt (.v 4) (.n 0)) (.fail 143) (.br (.cmp .lt (.v 4) (.n 256)) (.lt (.tab len8tab (.v 4)) (.lt (.wrap .i64 (.v 5)) (.lt (.add .i64 (.n 56) (.v 6)) (.ret [(.v 7)])))) (.fail 144))))) (.lt (.wrap .u8 (.v 2)) (.br (.cmp .lt (.v 3) (.n 0)) (.fail 143) (.br (.cmp .lt (.v 3) (.n 256)) (.lt (.tab len8tab (.v 3)) (.lt (.wrap .i64 (.v 4)) (.lt (.add .i64 (.n 48) (.v 5)) (.ret [(.v 6)])))) (.fail 144)))))) (.br (.not (.cmp .lt (.v 1) (.n 256))) (.lt (.shr .u64 (.v 1) (.n 8)) (.lt (.wrap .u8 (.v 2)) (.br (.cmp .lt (.v 3) (.n 0)) (.fail 143) (.br (.cmp .lt (.v 3) (.n 256)) (.lt (.tab len8tab (.v 3)) (.lt (.wrap .i64 (.v 4)) (.lt (.add .i64 (.n 40) (.v 5)) (.ret [(.v 6)])))) (.fail 144))))) (.lt (.wrap .u8 (.v 1)) (.br (.cmp .lt (.v 2) (.n 0)) (.fail 143) (.br (.cmp .lt (.v 2) (.n 256)) (.lt (.tab len8tab (.v 2)) (.lt (.wrap .i64 (.v 3)) (.lt (.add .i64 (.n 32) (.v 4)) (.ret [(.v 5)])))) (.fail 144))))))) (.br (.not (.cmp .lt (.v 0) (.n 65536))) (.lt (.shr .u64 (.v 0) (.n 16)) (.br (.not (.cmp .lt (.v 1) (.n 256))) (.lt (.shr .u64 (.v 1) (.n 8)) (.lt (.wrap .u8 (.v 2)) (.br (.cmp .lt (.v 3) (.n 0)) (.fail 143) (.br (.cmp .lt (.v 3) (.n 256)) (.lt (.tab len8tab (.v 3)) (.lt (.wrap .i64 (.v 4)) (.lt (.add .i64 (.n 24) (.v 5)) (.ret [(.v 6)])))) (.fail 144))))) (.lt (.wrap .u8 (.v 1)) (.br (.cmp .lt (.v 2) (.n 0)) (.fail 143) (.br (.cmp .lt (.v 2) (.n 256)) (.lt (.tab len8tab (.v 2)) (.lt (.wrap .i64 (.v 3)) (.lt (.add .i64 (.n 16) (.v 4)) (.ret [(.v 5)])))) (.fail 144)))))) (.br (.not (.cmp .lt (.v 0) (.n 256))) (.lt (.shr .u64 (.v 0) (.n 8)) (.lt (.wrap .u8 (.v 1)) (.br (.cmp .lt (.v 2) (.n 0)) (.fail 143) (.br (.cmp .lt (.v 2) (.n 256)) (.lt (.tab len8tab (.v 2)) (.lt (.wrap .i64 (.v 3)) (.lt (.add .i64 (.n 8) (.v 4)) (.ret [(.v 5)])))) (.fail 144))))) (.lt (.wrap .u8 (.v 0)) (.br (.cmp .lt (.v 1) (.n 0)) (.fail 143) (.br (.cmp .lt (.v 1) (.n 256)) (.lt (.tab len8tab (.v 1)) (.lt (.wrap .i64 (.v 2)) (.lt (.add .i64 (.n 0) (.v 3)) (.ret [(.v 4)])))) (.fail 144)))))))
theorem q97 : sxFunc (Cf [] unAll) 200 97 sg97 = t97 := by kernel_rfl
def p97 : Sp := (97, sg97, lenS)
theorem e97 : Ent p97 := ent_of unAll (l := []) ents_nil q97 fun args rs h hl => by
  match args, hl with
  | [x], _ =>
    simp only [lenS] at h
    split at h
    · rename_i hr
      cases h
      refine ⟨0, ?_⟩
      unfold inL at hr
      simp only [t97, T.den, B.den, A.den, E.den, Cm.den, List.map, List.getD_cons_zero, List.getD_cons_succ, List.cons_append, List.nil_append, Bool.or_eq_true, Bool.and_eq_true, Bool.not_eq_true', decide_eq_true_eq, decide_eq_false_iff_not, beq_iff_eq, beq_eq_false_iff_ne, ne_eq, wrap64, wrap8, shr32, shr16, shr8u]
      have d1 : x / 4294967296 / 65536 / 256 = x / 2 ^ 56 := by omega
      have d2 : x / 4294967296 / 65536 = x / 2 ^ 48 := by omega
      have d3 : x / 4294967296 / 256 = x / 2 ^ 40 := by omega
      have d4 : x / 4294967296 = x / 2 ^ 32 := by omega
      have d5 : x / 65536 / 256 = x / 2 ^ 24 := by omega
      have d6 : x / 65536 = x / 2 ^ 16 := by omega
      have d7 : x / 256 = x / 2 ^ 8 := by omega
      have d8 : x = x / 2 ^ 0 := by omega
      have fin : ∀ (k : Nat) (kk b : Int), b = x / 2 ^ k → 0 ≤ b → b < 256 → (k = 0 ∨ 0 < b) → k ≤ 56 → kk = k → (if b % 256 < 0 then none else if b % 256 < 256 then some (0, [w64 (kk + w64 ((len8tab.getD (b % 256).toNat 0).toNat : Int))]) else none) = some (0, [lenV x]) := by
        intro k kk b h1 h2 h3 h4 h5 h6
        subst h6
        obtain ⟨g1, g2, g3⟩ := len_byte h1 h2 h3 h4 h5
        rw [if_neg g2, if_pos g3, g1]
      by_cases c1 : x < 4294967296
      · rw [if_neg (by simp [c1])]
        by_cases c2 : x < 65536
        · rw [if_neg (by simp [c2])]
          by_cases c3 : x < 256
          · rw [if_neg (by simp [c3])]
            exact fin 0 0 _ d8 (by omega) (by omega) (.inl rfl) (by omega) rfl
          · rw [if_pos (by simpa using c3)]
            exact fin 8 8 _ d7 (by omega) (by omega) (.inr (by omega)) (by omega) rfl
        · rw [if_pos (by simpa using c2)]
          by_cases c3 : x / 65536 < 256
          · rw [if_neg (by simp [c3])]
            exact fin 16 16 _ d6 (by omega) (by omega) (.inr (by omega)) (by omega) rfl
          · rw [if_pos (by simpa using c3)]
            exact fin 24 24 _ d5 (by omega) (by omega) (.inr (by omega)) (by omega) rfl
      · rw [if_pos (by simpa using c1)]
        by_cases c2 : x / 4294967296 < 65536
        · rw [if_neg (by simp [c2])]
          by_cases c3 : x / 4294967296 < 256
          · rw [if_neg (by simp [c3])]
            exact fin 32 32 _ d4 (by omega) (by omega) (.inr (by omega)) (by omega) rfl
          · rw [if_pos (by simpa using c3)]
            exact fin 40 40 _ d3 (by omega) (by omega) (.inr (by omega)) (by omega) rfl
        · rw [if_pos (by simpa using c2)]
          by_cases c3 : x / 4294967296 / 65536 < 256
          · rw [if_neg (by simp [c3])]
            exact fin 48 48 _ d2 (by omega) (by omega) (.inr (by omega)) (by omega) rfl
          · rw [if_pos (by simpa using c3)]
            exact fin 56 56 _ d1 (by omega) (by omega) (.inr (by omega)) (by omega) rfl
    · cases h
end Go.SXR

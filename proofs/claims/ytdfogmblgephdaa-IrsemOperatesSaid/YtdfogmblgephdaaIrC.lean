/- IRSEM: the operations, of the program and of the reference. -/
import Derived.Test.YtdfogmblgephdaaIrB
set_option linter.unusedVariables false
set_option linter.unusedSimpArgs false
namespace Go.SYI
open Go Go.SY Go.Proofs Go.RowKit

def binV (k a b : Int) : Int :=
  if k = 1 then IntKind.i64.wrap (a + b) else if k = 2 then IntKind.i64.wrap (a - b) else if k = 3 then IntKind.i64.wrap (a * b) else
  if k = 4 then (if b = 0 then 0 else if b = -1 then IntKind.i64.wrap (0 - a) else IntKind.i64.wrap (a.tdiv b)) else
  if k = 5 then (if b = 0 then 0 else if b = -1 then 0 else a.tmod b) else
  if k = 6 then bitsOf .i64 (fun x y => x &&& y) a b else if k = 7 then bitsOf .i64 (fun x y => x ||| y) a b else if k = 8 then bitsOf .i64 (fun x y => x ^^^ y) a b else
  if k = 9 then (E.den [.num a, .num ((IntKind.u64.wrap b).tmod 64)] (.shl .i64 (.v 0) (.v 1))).int else
  if k = 10 then (E.den [.num a, .num ((IntKind.u64.wrap b).tmod 64)] (.shr .i64 (.v 0) (.v 1))).int else
  if k = 11 then (if a = b then 1 else 0) else if k = 12 then (if a = b then 0 else 1) else if k = 13 then (if a < b then 1 else 0) else
  if k = 14 then (if b < a then 0 else 1) else 0
def binT (k b : Int) : Bool := if k = 4 then decide (b = 0) else if k = 5 then decide (b = 0) else false
def binE (k : Int) : Int := if 1 ≤ k ∧ k ≤ 14 then 0 else 2
def sBin : List Dt → Post → Prop := fun is Q => ∃ k a b, is = [.num k, .num a, .num b] ∧ Q 0 [.num (binV k a b), .tru (binT k b), .num (binE k)]
theorem and63 (b : Int) : IntKind.u64.wrap (bitsOf .i64 (fun x y => x &&& y) b 63) = (IntKind.u64.wrap b).tmod 64 := by
  have h : bitsOf .i64 (fun x y => x &&& y) b 63 = IntKind.i64.wrap (((BitVec.ofInt 64 b &&& BitVec.ofInt 64 63).toNat : Nat) : Int) := rfl
  rw [h, BitVec.toNat_and, BitVec.toNat_ofInt, BitVec.toNat_ofInt]
  have e : ((63 : Int) % ((2 ^ 64 : Nat) : Int)).toNat = 2 ^ 6 - 1 := by decide
  rw [e, Nat.and_two_pow_sub_one_eq_mod, IntKind.wrap_i64, IntKind.wrap_u64, IntKind.wrap_u64, Int.tmod_eq_emod_of_nonneg (by omega)]
  omega
def gBin : Sig := ⟨[.dat 3, .dat 2, .dat 2], [], ⟨[.dat 2, .dat 4, .dat 22], []⟩, none⟩
def t7 : T := T.br (B.cmp (Cm.eq) (A.v 0) (A.n 1)) (T.lt none (E.add (IntKind.i64) (A.v 1) (A.v 2)) (T.ret 0 [A.v 3, A.d (Dt.tru false), A.n 0])) (T.br (B.cmp (Cm.eq) (A.v 0) (A.n 2)) (T.lt none (E.sub (IntKind.i64) (A.v 1) (A.v 2)) (T.ret 0 [A.v 3, A.d (Dt.tru false), A.n 0])) (T.br (B.cmp (Cm.eq) (A.v 0) (A.n 3)) (T.lt none (E.mul (IntKind.i64) (A.v 1) (A.v 2)) (T.ret 0 [A.v 3, A.d (Dt.tru false), A.n 0])) (T.br (B.cmp (Cm.eq) (A.v 0) (A.n 4)) (T.br (B.cmp (Cm.eq) (A.v 2) (A.n 0)) (T.ret 0 [A.n 0, A.d (Dt.tru true), A.n 0]) (T.br (B.and (B.cmp (Cm.eq) (A.v 2) (A.n (-1))) (B.cmp (Cm.eq) (A.v 0) (A.n 4))) (T.lt none (E.neg (IntKind.i64) (A.v 1)) (T.ret 0 [A.v 3, A.d (Dt.tru false), A.n 0])) (T.lt none (E.quo (IntKind.i64) (A.v 1) (A.v 2)) (T.ret 0 [A.v 3, A.d (Dt.tru false), A.n 0])))) (T.br (B.cmp (Cm.eq) (A.v 0) (A.n 5)) (T.br (B.cmp (Cm.eq) (A.v 2) (A.n 0)) (T.ret 0 [A.n 0, A.d (Dt.tru true), A.n 0]) (T.br (B.cmp (Cm.eq) (A.v 2) (A.n (-1))) (T.ret 0 [A.n 0, A.d (Dt.tru false), A.n 0]) (T.lt none (E.rem (A.v 1) (A.v 2)) (T.ret 0 [A.v 3, A.d (Dt.tru false), A.n 0])))) (T.br (B.cmp (Cm.eq) (A.v 0) (A.n 6)) (T.lt none (E.band (IntKind.i64) (A.v 1) (A.v 2)) (T.ret 0 [A.v 3, A.d (Dt.tru false), A.n 0])) (T.br (B.cmp (Cm.eq) (A.v 0) (A.n 7)) (T.lt none (E.bor (IntKind.i64) (A.v 1) (A.v 2)) (T.ret 0 [A.v 3, A.d (Dt.tru false), A.n 0])) (T.br (B.cmp (Cm.eq) (A.v 0) (A.n 8)) (T.lt none (E.bxor (IntKind.i64) (A.v 1) (A.v 2)) (T.ret 0 [A.v 3, A.d (Dt.tru false), A.n 0])) (T.br (B.cmp (Cm.eq) (A.v 0) (A.n 9)) (T.lt none (E.wrap (IntKind.u64) (A.v 2)) (T.lt none (E.rem (A.v 3) (A.n 64)) (T.br (B.cmp (Cm.lt) (A.v 4) (A.n 0)) (T.fail 156) (T.lt none (E.shl (IntKind.i64) (A.v 1) (A.v 4)) (T.ret 0 [A.v 5, A.d (Dt.tru false), A.n 0]))))) (T.br (B.cmp (Cm.eq) (A.v 0) (A.n 10)) (T.lt none (E.wrap (IntKind.u64) (A.v 2)) (T.lt none (E.rem (A.v 3) (A.n 64)) (T.br (B.cmp (Cm.lt) (A.v 4) (A.n 0)) (T.fail 157) (T.lt none (E.shr (IntKind.i64) (A.v 1) (A.v 4)) (T.ret 0 [A.v 5, A.d (Dt.tru false), A.n 0]))))) (T.br (B.cmp (Cm.eq) (A.v 0) (A.n 11)) (T.br (B.cmp (Cm.eq) (A.v 1) (A.v 2)) (T.ret 0 [A.n 1, A.d (Dt.tru false), A.n 0]) (T.ret 0 [A.n 0, A.d (Dt.tru false), A.n 0])) (T.br (B.cmp (Cm.eq) (A.v 0) (A.n 12)) (T.br (B.not (B.cmp (Cm.eq) (A.v 1) (A.v 2))) (T.ret 0 [A.n 1, A.d (Dt.tru false), A.n 0]) (T.ret 0 [A.n 0, A.d (Dt.tru false), A.n 0])) (T.br (B.cmp (Cm.eq) (A.v 0) (A.n 13)) (T.br (B.cmp (Cm.lt) (A.v 1) (A.v 2)) (T.ret 0 [A.n 1, A.d (Dt.tru false), A.n 0]) (T.ret 0 [A.n 0, A.d (Dt.tru false), A.n 0])) (T.br (B.cmp (Cm.eq) (A.v 0) (A.n 14)) (T.br (B.not (B.cmp (Cm.lt) (A.v 2) (A.v 1))) (T.ret 0 [A.n 1, A.d (Dt.tru false), A.n 0]) (T.ret 0 [A.n 0, A.d (Dt.tru false), A.n 0])) (T.ret 0 [A.n 0, A.d (Dt.tru false), A.n 2]))))))))))))))
theorem q7 : sxFunc (Cf []) 400 7 gBin = t7 := by kernel_rfl
def t8 : T := T.br (B.cmp (Cm.eq) (A.v 0) (A.n 1)) (T.lt none (E.add (IntKind.i64) (A.v 1) (A.v 2)) (T.ret 0 [A.v 3, A.d (Dt.tru false), A.n 0])) (T.br (B.cmp (Cm.eq) (A.v 0) (A.n 2)) (T.lt none (E.sub (IntKind.i64) (A.v 1) (A.v 2)) (T.ret 0 [A.v 3, A.d (Dt.tru false), A.n 0])) (T.br (B.cmp (Cm.eq) (A.v 0) (A.n 3)) (T.lt none (E.mul (IntKind.i64) (A.v 1) (A.v 2)) (T.ret 0 [A.v 3, A.d (Dt.tru false), A.n 0])) (T.br (B.cmp (Cm.eq) (A.v 0) (A.n 4)) (T.br (B.cmp (Cm.eq) (A.v 2) (A.n 0)) (T.ret 0 [A.n 0, A.d (Dt.tru true), A.n 0]) (T.br (B.cmp (Cm.eq) (A.v 2) (A.n (-1))) (T.lt none (E.neg (IntKind.i64) (A.v 1)) (T.ret 0 [A.v 3, A.d (Dt.tru false), A.n 0])) (T.lt none (E.quo (IntKind.i64) (A.v 1) (A.v 2)) (T.ret 0 [A.v 3, A.d (Dt.tru false), A.n 0])))) (T.br (B.cmp (Cm.eq) (A.v 0) (A.n 5)) (T.br (B.cmp (Cm.eq) (A.v 2) (A.n 0)) (T.ret 0 [A.n 0, A.d (Dt.tru true), A.n 0]) (T.br (B.cmp (Cm.eq) (A.v 2) (A.n (-1))) (T.ret 0 [A.n 0, A.d (Dt.tru false), A.n 0]) (T.lt none (E.rem (A.v 1) (A.v 2)) (T.ret 0 [A.v 3, A.d (Dt.tru false), A.n 0])))) (T.br (B.cmp (Cm.eq) (A.v 0) (A.n 6)) (T.lt none (E.band (IntKind.i64) (A.v 1) (A.v 2)) (T.ret 0 [A.v 3, A.d (Dt.tru false), A.n 0])) (T.br (B.cmp (Cm.eq) (A.v 0) (A.n 7)) (T.lt none (E.bor (IntKind.i64) (A.v 1) (A.v 2)) (T.ret 0 [A.v 3, A.d (Dt.tru false), A.n 0])) (T.br (B.cmp (Cm.eq) (A.v 0) (A.n 8)) (T.lt none (E.bxor (IntKind.i64) (A.v 1) (A.v 2)) (T.ret 0 [A.v 3, A.d (Dt.tru false), A.n 0])) (T.br (B.cmp (Cm.eq) (A.v 0) (A.n 9)) (T.lt none (E.band (IntKind.i64) (A.v 2) (A.n 63)) (T.lt none (E.wrap (IntKind.u64) (A.v 3)) (T.br (B.cmp (Cm.lt) (A.v 4) (A.n 0)) (T.fail 156) (T.lt none (E.shl (IntKind.i64) (A.v 1) (A.v 4)) (T.ret 0 [A.v 5, A.d (Dt.tru false), A.n 0]))))) (T.br (B.cmp (Cm.eq) (A.v 0) (A.n 10)) (T.lt none (E.band (IntKind.i64) (A.v 2) (A.n 63)) (T.lt none (E.wrap (IntKind.u64) (A.v 3)) (T.br (B.cmp (Cm.lt) (A.v 4) (A.n 0)) (T.fail 157) (T.lt none (E.shr (IntKind.i64) (A.v 1) (A.v 4)) (T.ret 0 [A.v 5, A.d (Dt.tru false), A.n 0]))))) (T.br (B.cmp (Cm.eq) (A.v 0) (A.n 11)) (T.br (B.cmp (Cm.eq) (A.v 1) (A.v 2)) (T.ret 0 [A.n 1, A.d (Dt.tru false), A.n 0]) (T.ret 0 [A.n 0, A.d (Dt.tru false), A.n 0])) (T.br (B.cmp (Cm.eq) (A.v 0) (A.n 12)) (T.br (B.not (B.cmp (Cm.eq) (A.v 1) (A.v 2))) (T.ret 0 [A.n 1, A.d (Dt.tru false), A.n 0]) (T.ret 0 [A.n 0, A.d (Dt.tru false), A.n 0])) (T.br (B.cmp (Cm.eq) (A.v 0) (A.n 13)) (T.br (B.cmp (Cm.lt) (A.v 1) (A.v 2)) (T.ret 0 [A.n 1, A.d (Dt.tru false), A.n 0]) (T.ret 0 [A.n 0, A.d (Dt.tru false), A.n 0])) (T.br (B.cmp (Cm.eq) (A.v 0) (A.n 14)) (T.br (B.not (B.cmp (Cm.lt) (A.v 2) (A.v 1))) (T.ret 0 [A.n 1, A.d (Dt.tru false), A.n 0]) (T.ret 0 [A.n 0, A.d (Dt.tru false), A.n 0])) (T.ret 0 [A.n 0, A.d (Dt.tru false), A.n 2]))))))))))))))
theorem q8 : sxFunc (Cf []) 400 8 gBin = t8 := by kernel_rfl
theorem w7 {F : Nat → List Dt → Post → Prop} {k a b : Int} {Q : Post} (hq : Q 0 [.num (binV k a b), .tru (binT k b), .num (binE k)]) : t7.wp ty F [.num k, .num a, .num b] Q := by
  have n1 := sh_nn b
  simp only [t7, T.wp, tyO, true_implies, E.den, A.den, B.den, Cm.den, A.int, Dt.int, List.cons_append, List.nil_append, List.getD_cons_succ, List.getD_cons_zero, List.map_cons, List.map_nil, decide_eq_true_eq, if_true, if_false, Bool.false_eq_true, beq_iff_eq, Bool.and_eq_true, Bool.not_eq_true', beq_eq_false_iff_ne, ne_eq, decide_eq_false_iff_not, n1]
  by_cases h1 : k = 1
  · subst h1; simpa [binV, binT, binE] using hq
  by_cases h2 : k = 2
  · subst h2; simpa [binV, binT, binE] using hq
  by_cases h3 : k = 3
  · subst h3; simpa [binV, binT, binE] using hq
  by_cases h4 : k = 4
  · subst h4
    by_cases hb0 : b = 0
    · simpa [binV, binT, binE, hb0] using hq
    · by_cases hb1 : b = -1
      · simpa [binV, binT, binE, hb1] using hq
      · simpa [binV, binT, binE, hb0, hb1] using hq
  by_cases h5 : k = 5
  · subst h5
    by_cases hb0 : b = 0
    · simpa [binV, binT, binE, hb0] using hq
    · by_cases hb1 : b = -1
      · simpa [binV, binT, binE, hb1] using hq
      · simpa [binV, binT, binE, hb0, hb1] using hq
  by_cases h6 : k = 6
  · subst h6; simpa [binV, binT, binE] using hq
  by_cases h7 : k = 7
  · subst h7; simpa [binV, binT, binE] using hq
  by_cases h8 : k = 8
  · subst h8; simpa [binV, binT, binE] using hq
  by_cases h9 : k = 9
  · subst h9
    simpa [binV, binT, binE, E.den, A.int, A.den, Dt.int] using hq
  by_cases h10 : k = 10
  · subst h10
    simpa [binV, binT, binE, E.den, A.int, A.den, Dt.int] using hq
  by_cases h11 : k = 11
  · subst h11
    by_cases hab : a = b
    · simpa [binV, binT, binE, hab] using hq
    · simpa [binV, binT, binE, hab] using hq
  by_cases h12 : k = 12
  · subst h12
    by_cases hab : a = b
    · simpa [binV, binT, binE, hab] using hq
    · simpa [binV, binT, binE, hab] using hq
  by_cases h13 : k = 13
  · subst h13
    by_cases hab : a < b
    · simpa [binV, binT, binE, hab] using hq
    · simpa [binV, binT, binE, hab] using hq
  by_cases h14 : k = 14
  · subst h14
    by_cases hab : b < a
    · have hba : ¬ a ≤ b := by omega
      simpa [binV, binT, binE, hab, hba] using hq
    · have hba : a ≤ b := by omega
      simpa [binV, binT, binE, hab, hba] using hq
  have hE : binE k = 2 := by unfold binE; rw [if_neg (by omega)]
  simpa [binV, binT, hE, h1, h2, h3, h4, h5, h6, h7, h8, h9, h10, h11, h12, h13, h14] using hq
theorem w8 {F : Nat → List Dt → Post → Prop} {k a b : Int} {Q : Post} (hq : Q 0 [.num (binV k a b), .tru (binT k b), .num (binE k)]) : t8.wp ty F [.num k, .num a, .num b] Q := by
  have n1 := sh_nn b
  have n2 := and63 b
  simp only [t8, T.wp, tyO, true_implies, E.den, A.den, B.den, Cm.den, A.int, Dt.int, List.cons_append, List.nil_append, List.getD_cons_succ, List.getD_cons_zero, List.map_cons, List.map_nil, decide_eq_true_eq, if_true, if_false, Bool.false_eq_true, beq_iff_eq, Bool.and_eq_true, Bool.not_eq_true', beq_eq_false_iff_ne, ne_eq, decide_eq_false_iff_not, n2, n1]
  by_cases h1 : k = 1
  · subst h1; simpa [binV, binT, binE] using hq
  by_cases h2 : k = 2
  · subst h2; simpa [binV, binT, binE] using hq
  by_cases h3 : k = 3
  · subst h3; simpa [binV, binT, binE] using hq
  by_cases h4 : k = 4
  · subst h4
    by_cases hb0 : b = 0
    · simpa [binV, binT, binE, hb0] using hq
    · by_cases hb1 : b = -1
      · simpa [binV, binT, binE, hb1] using hq
      · simpa [binV, binT, binE, hb0, hb1] using hq
  by_cases h5 : k = 5
  · subst h5
    by_cases hb0 : b = 0
    · simpa [binV, binT, binE, hb0] using hq
    · by_cases hb1 : b = -1
      · simpa [binV, binT, binE, hb1] using hq
      · simpa [binV, binT, binE, hb0, hb1] using hq
  by_cases h6 : k = 6
  · subst h6; simpa [binV, binT, binE] using hq
  by_cases h7 : k = 7
  · subst h7; simpa [binV, binT, binE] using hq
  by_cases h8 : k = 8
  · subst h8; simpa [binV, binT, binE] using hq
  by_cases h9 : k = 9
  · subst h9
    simpa [binV, binT, binE, E.den, A.int, A.den, Dt.int] using hq
  by_cases h10 : k = 10
  · subst h10
    simpa [binV, binT, binE, E.den, A.int, A.den, Dt.int] using hq
  by_cases h11 : k = 11
  · subst h11
    by_cases hab : a = b
    · simpa [binV, binT, binE, hab] using hq
    · simpa [binV, binT, binE, hab] using hq
  by_cases h12 : k = 12
  · subst h12
    by_cases hab : a = b
    · simpa [binV, binT, binE, hab] using hq
    · simpa [binV, binT, binE, hab] using hq
  by_cases h13 : k = 13
  · subst h13
    by_cases hab : a < b
    · simpa [binV, binT, binE, hab] using hq
    · simpa [binV, binT, binE, hab] using hq
  by_cases h14 : k = 14
  · subst h14
    by_cases hab : b < a
    · have hba : ¬ a ≤ b := by omega
      simpa [binV, binT, binE, hab, hba] using hq
    · have hba : a ≤ b := by omega
      simpa [binV, binT, binE, hab, hba] using hq
  have hE : binE k = 2 := by unfold binE; rw [if_neg (by omega)]
  simpa [binV, binT, hE, h1, h2, h3, h4, h5, h6, h7, h8, h9, h10, h11, h12, h13, h14] using hq
theorem e7 : Ent (7, 7, gBin, sBin) := ent_of (l := []) .nil ents_nil q7 fun is Q _ h => by
  obtain ⟨k, a, b, rfl, hq⟩ := h
  exact w7 hq
theorem e8 : Ent (8, 8, gBin, sBin) := ent_of (l := []) .nil ents_nil q8 fun is Q _ h => by
  obtain ⟨k, a, b, rfl, hq⟩ := h
  exact w8 hq
def g3 : Sig := ⟨[.dat 3, .dat 2, .dat 2], [], ⟨[.dat 4], []⟩, none⟩
def l3 : List Ct := [(7, 7, gBin, sBin), (8, 8, gBin, sBin), c9]
def t3 : T := T.call 7 [A.v 0, A.v 1, A.v 2] [2, 4, 22] (T.call 8 [A.v 0, A.v 1, A.v 2] [2, 4, 22] (T.br (B.and (B.and (B.cmp (Cm.eq) (A.v 3) (A.v 6)) (B.or (B.and (B.is (A.v 4)) (B.is (A.v 7))) (B.and (B.not (B.is (A.v 4))) (B.not (B.is (A.v 7)))))) (B.cmp (Cm.eq) (A.v 5) (A.v 8))) (T.call 9 [] [] (T.lt none (E.boo (B.and (B.and (B.cmp (Cm.eq) (A.v 3) (A.v 6)) (B.or (B.and (B.is (A.v 4)) (B.is (A.v 7))) (B.and (B.not (B.is (A.v 4))) (B.not (B.is (A.v 7)))))) (B.cmp (Cm.eq) (A.v 5) (A.v 8)))) (T.ret 0 [A.v 9])) [] (T.fail 345)) (T.ret 0 [A.d (Dt.tru false)])) [] (T.fail 345)) [] (T.fail 345)
theorem q3 : sxFunc (Cf l3) 400 3 g3 = t3 := by kernel_rfl
def s3 : List Dt → Post → Prop := fun is Q => ∃ k a b, is = [.num k, .num a, .num b] ∧ Q 0 [.tru true]
theorem e3 : Ent (3, 3, g3, s3) := ent_of (l := l3) (by simp [l3, c9]) (ents_cons e7 (ents_cons e8 (ents_cons e9 ents_nil))) q3 fun is Q _ h => by
  obtain ⟨k, a, b, rfl, hq⟩ := h
  have h7 : ∀ is Q, sBin is Q → fOf l3 7 is Q := fun is Q h => h
  have h8 : ∀ is Q, sBin is Q → fOf l3 8 is Q := fun is Q h => h
  have h9 : ∀ is Q, s0 is Q → fOf l3 9 is Q := fun is Q h => h
  generalize fOf l3 = F at h7 h8 h9
  simp only [t3, T.wp, tyO, true_implies, E.den, A.den, B.den, Cm.den, A.int, Dt.int, List.cons_append, List.nil_append, List.getD_cons_succ, List.getD_cons_zero, List.map_cons, List.map_nil, decide_eq_true_eq, if_true, if_false, Bool.false_eq_true, beq_iff_eq, Bool.and_eq_true, Bool.not_eq_true', beq_eq_false_iff_ne, ne_eq, decide_eq_false_iff_not]
  refine h7 _ _ ⟨k, a, b, rfl, ?_⟩
  simp only [if_true]
  intro _
  refine h8 _ _ ⟨k, a, b, rfl, ?_⟩
  simp only [if_true]
  intro _
  simp only [List.cons_append, List.nil_append, List.getD_cons_succ, List.getD_cons_zero, Dt.int, Dt.bool, true_and]
  cases hT : binT k b
  · simp only [hT, Bool.not_false, Bool.and_self, Bool.or_true, Bool.true_and, Bool.and_true, beq_self_eq_true, if_true, Bool.false_and, Bool.false_or, Bool.false_eq_true, false_and, or_true, and_self, and_true, true_and]
    first
      | (refine h9 _ _ ⟨rfl, ?_⟩
         simp only [if_true]
         intro _
         simpa using hq)
      | (simp
         refine h9 _ _ ⟨rfl, ?_⟩
         simp
         intro _
         simpa using hq)
  · simp only [hT, Bool.not_true, Bool.and_self, Bool.or_false, Bool.true_and, Bool.and_true, beq_self_eq_true, if_true, Bool.false_and, Bool.true_or, Bool.true_eq_false, or_false, and_self, and_true, true_and]
    first
      | (refine h9 _ _ ⟨rfl, ?_⟩
         simp only [if_true]
         intro _
         simpa using hq)
      | (simp
         refine h9 _ _ ⟨rfl, ?_⟩
         simp
         intro _
         simpa using hq)

end Go.SYI

/- IRSEM: laws of operations. -/
import Derived.Test.YtdfogmblgephdaaIrA
import Derived.Laws.Bits64
set_option linter.unusedVariables false
namespace Go.SYI
open Go Go.SY Go.Proofs Go.RowKit

def g6 : Sig := ⟨[.dat 2, .dat 2], [], ⟨[.dat 4], []⟩, none⟩
def t6 : T := T.br (B.cmp (Cm.eq) (A.v 1) (A.n 0)) (T.lt none (E.wrap (IntKind.u64) (A.v 1)) (T.lt none (E.rem (A.v 2) (A.n 64)) (T.br (B.cmp (Cm.lt) (A.v 3) (A.n 0)) (T.fail 156) (T.lt none (E.shl (IntKind.i64) (A.v 0) (A.v 3)) (T.lt none (E.add (IntKind.i64) (A.v 1) (A.n 64)) (T.lt none (E.wrap (IntKind.u64) (A.v 5)) (T.lt none (E.rem (A.v 6) (A.n 64)) (T.br (B.cmp (Cm.lt) (A.v 7) (A.n 0)) (T.fail 156) (T.lt none (E.shl (IntKind.i64) (A.v 0) (A.v 7)) (T.lt none (E.wrap (IntKind.u64) (A.v 1)) (T.lt none (E.rem (A.v 9) (A.n 64)) (T.br (B.cmp (Cm.lt) (A.v 10) (A.n 0)) (T.fail 157) (T.lt none (E.shr (IntKind.i64) (A.v 0) (A.v 10)) (T.lt none (E.sub (IntKind.i64) (A.v 1) (A.n 64)) (T.lt none (E.wrap (IntKind.u64) (A.v 12)) (T.lt none (E.rem (A.v 13) (A.n 64)) (T.br (B.cmp (Cm.lt) (A.v 14) (A.n 0)) (T.fail 157) (T.lt none (E.shr (IntKind.i64) (A.v 0) (A.v 14)) (T.br (B.cmp (Cm.lt) (A.v 0) (A.v 1)) (T.lt none (E.bxor (IntKind.i64) (A.v 0) (A.v 1)) (T.lt none (E.bxor (IntKind.i64) (A.v 16) (A.v 1)) (T.br (B.and (B.and (B.cmp (Cm.eq) (A.v 4) (A.v 8)) (B.cmp (Cm.eq) (A.v 11) (A.v 15))) (B.cmp (Cm.eq) (A.v 17) (A.v 0))) (T.call 9 [] [] (T.lt none (E.boo (B.and (B.and (B.cmp (Cm.eq) (A.v 4) (A.v 8)) (B.cmp (Cm.eq) (A.v 11) (A.v 15))) (B.cmp (Cm.eq) (A.v 17) (A.v 0)))) (T.ret 0 [A.v 18])) [] (T.fail 345)) (T.ret 0 [A.d (Dt.tru false)])))) (T.lt none (E.bxor (IntKind.i64) (A.v 0) (A.v 1)) (T.lt none (E.bxor (IntKind.i64) (A.v 16) (A.v 1)) (T.br (B.and (B.and (B.cmp (Cm.eq) (A.v 4) (A.v 8)) (B.cmp (Cm.eq) (A.v 11) (A.v 15))) (B.cmp (Cm.eq) (A.v 17) (A.v 0))) (T.call 9 [] [] (T.lt none (E.boo (B.and (B.and (B.cmp (Cm.eq) (A.v 4) (A.v 8)) (B.cmp (Cm.eq) (A.v 11) (A.v 15))) (B.cmp (Cm.eq) (A.v 17) (A.v 0)))) (T.ret 0 [A.v 18])) [] (T.fail 345)) (T.ret 0 [A.d (Dt.tru false)]))))))))))))))))))))))) (T.br (B.cmp (Cm.eq) (A.v 1) (A.n (-1))) (T.lt none (E.neg (IntKind.i64) (A.v 0)) (T.lt none (E.mul (IntKind.i64) (A.v 2) (A.v 1)) (T.lt none (E.add (IntKind.i64) (A.v 3) (A.n 0)) (T.br (B.or (B.or (B.cmp (Cm.eq) (A.v 1) (A.n 0)) (B.cmp (Cm.eq) (A.v 1) (A.n 0))) (B.not (B.cmp (Cm.eq) (A.v 4) (A.v 0)))) (T.ret 0 [A.d (Dt.tru false)]) (T.lt none (E.wrap (IntKind.u64) (A.v 1)) (T.lt none (E.rem (A.v 5) (A.n 64)) (T.br (B.cmp (Cm.lt) (A.v 6) (A.n 0)) (T.fail 156) (T.lt none (E.shl (IntKind.i64) (A.v 0) (A.v 6)) (T.lt none (E.add (IntKind.i64) (A.v 1) (A.n 64)) (T.lt none (E.wrap (IntKind.u64) (A.v 8)) (T.lt none (E.rem (A.v 9) (A.n 64)) (T.br (B.cmp (Cm.lt) (A.v 10) (A.n 0)) (T.fail 156) (T.lt none (E.shl (IntKind.i64) (A.v 0) (A.v 10)) (T.lt none (E.wrap (IntKind.u64) (A.v 1)) (T.lt none (E.rem (A.v 12) (A.n 64)) (T.br (B.cmp (Cm.lt) (A.v 13) (A.n 0)) (T.fail 157) (T.lt none (E.shr (IntKind.i64) (A.v 0) (A.v 13)) (T.lt none (E.sub (IntKind.i64) (A.v 1) (A.n 64)) (T.lt none (E.wrap (IntKind.u64) (A.v 15)) (T.lt none (E.rem (A.v 16) (A.n 64)) (T.br (B.cmp (Cm.lt) (A.v 17) (A.n 0)) (T.fail 157) (T.lt none (E.shr (IntKind.i64) (A.v 0) (A.v 17)) (T.br (B.cmp (Cm.lt) (A.v 0) (A.v 1)) (T.lt none (E.bxor (IntKind.i64) (A.v 0) (A.v 1)) (T.lt none (E.bxor (IntKind.i64) (A.v 19) (A.v 1)) (T.br (B.and (B.and (B.cmp (Cm.eq) (A.v 7) (A.v 11)) (B.cmp (Cm.eq) (A.v 14) (A.v 18))) (B.cmp (Cm.eq) (A.v 20) (A.v 0))) (T.call 9 [] [] (T.lt none (E.boo (B.and (B.and (B.cmp (Cm.eq) (A.v 7) (A.v 11)) (B.cmp (Cm.eq) (A.v 14) (A.v 18))) (B.cmp (Cm.eq) (A.v 20) (A.v 0)))) (T.ret 0 [A.v 21])) [] (T.fail 345)) (T.ret 0 [A.d (Dt.tru false)])))) (T.lt none (E.bxor (IntKind.i64) (A.v 0) (A.v 1)) (T.lt none (E.bxor (IntKind.i64) (A.v 19) (A.v 1)) (T.br (B.and (B.and (B.cmp (Cm.eq) (A.v 7) (A.v 11)) (B.cmp (Cm.eq) (A.v 14) (A.v 18))) (B.cmp (Cm.eq) (A.v 20) (A.v 0))) (T.call 9 [] [] (T.lt none (E.boo (B.and (B.and (B.cmp (Cm.eq) (A.v 7) (A.v 11)) (B.cmp (Cm.eq) (A.v 14) (A.v 18))) (B.cmp (Cm.eq) (A.v 20) (A.v 0)))) (T.ret 0 [A.v 21])) [] (T.fail 345)) (T.ret 0 [A.d (Dt.tru false)]))))))))))))))))))))))))))) (T.lt none (E.quo (IntKind.i64) (A.v 0) (A.v 1)) (T.lt none (E.rem (A.v 0) (A.v 1)) (T.lt none (E.mul (IntKind.i64) (A.v 2) (A.v 1)) (T.lt none (E.add (IntKind.i64) (A.v 4) (A.v 3)) (T.br (B.or (B.or (B.cmp (Cm.eq) (A.v 1) (A.n 0)) (B.cmp (Cm.eq) (A.v 1) (A.n 0))) (B.not (B.cmp (Cm.eq) (A.v 5) (A.v 0)))) (T.ret 0 [A.d (Dt.tru false)]) (T.lt none (E.wrap (IntKind.u64) (A.v 1)) (T.lt none (E.rem (A.v 6) (A.n 64)) (T.br (B.cmp (Cm.lt) (A.v 7) (A.n 0)) (T.fail 156) (T.lt none (E.shl (IntKind.i64) (A.v 0) (A.v 7)) (T.lt none (E.add (IntKind.i64) (A.v 1) (A.n 64)) (T.lt none (E.wrap (IntKind.u64) (A.v 9)) (T.lt none (E.rem (A.v 10) (A.n 64)) (T.br (B.cmp (Cm.lt) (A.v 11) (A.n 0)) (T.fail 156) (T.lt none (E.shl (IntKind.i64) (A.v 0) (A.v 11)) (T.lt none (E.wrap (IntKind.u64) (A.v 1)) (T.lt none (E.rem (A.v 13) (A.n 64)) (T.br (B.cmp (Cm.lt) (A.v 14) (A.n 0)) (T.fail 157) (T.lt none (E.shr (IntKind.i64) (A.v 0) (A.v 14)) (T.lt none (E.sub (IntKind.i64) (A.v 1) (A.n 64)) (T.lt none (E.wrap (IntKind.u64) (A.v 16)) (T.lt none (E.rem (A.v 17) (A.n 64)) (T.br (B.cmp (Cm.lt) (A.v 18) (A.n 0)) (T.fail 157) (T.lt none (E.shr (IntKind.i64) (A.v 0) (A.v 18)) (T.br (B.cmp (Cm.lt) (A.v 0) (A.v 1)) (T.lt none (E.bxor (IntKind.i64) (A.v 0) (A.v 1)) (T.lt none (E.bxor (IntKind.i64) (A.v 20) (A.v 1)) (T.br (B.and (B.and (B.cmp (Cm.eq) (A.v 8) (A.v 12)) (B.cmp (Cm.eq) (A.v 15) (A.v 19))) (B.cmp (Cm.eq) (A.v 21) (A.v 0))) (T.call 9 [] [] (T.lt none (E.boo (B.and (B.and (B.cmp (Cm.eq) (A.v 8) (A.v 12)) (B.cmp (Cm.eq) (A.v 15) (A.v 19))) (B.cmp (Cm.eq) (A.v 21) (A.v 0)))) (T.ret 0 [A.v 22])) [] (T.fail 345)) (T.ret 0 [A.d (Dt.tru false)])))) (T.lt none (E.bxor (IntKind.i64) (A.v 0) (A.v 1)) (T.lt none (E.bxor (IntKind.i64) (A.v 20) (A.v 1)) (T.br (B.and (B.and (B.cmp (Cm.eq) (A.v 8) (A.v 12)) (B.cmp (Cm.eq) (A.v 15) (A.v 19))) (B.cmp (Cm.eq) (A.v 21) (A.v 0))) (T.call 9 [] [] (T.lt none (E.boo (B.and (B.and (B.cmp (Cm.eq) (A.v 8) (A.v 12)) (B.cmp (Cm.eq) (A.v 15) (A.v 19))) (B.cmp (Cm.eq) (A.v 21) (A.v 0)))) (T.ret 0 [A.v 22])) [] (T.fail 345)) (T.ret 0 [A.d (Dt.tru false)])))))))))))))))))))))))))))))
theorem q6 : sxFunc (Cf [c9]) 400 6 g6 = t6 := by kernel_rfl
def inI (x : Int) : Prop := -9223372036854775808 ≤ x ∧ x ≤ 9223372036854775807
theorem ofInt_wrap (v : BitVec 64) : BitVec.ofInt 64 (IntKind.i64.wrap (v.toNat : Int)) = v := by
  apply BitVec.eq_of_toNat_eq
  rw [BitVec.toNat_ofInt, IntKind.wrap_i64]
  have := v.isLt
  omega
theorem wrap_ofInt {a : Int} (ha : inI a) : IntKind.i64.wrap ((BitVec.ofInt 64 a).toNat : Int) = a := by
  rw [BitVec.toNat_ofInt, IntKind.wrap_i64]
  obtain ⟨h1, h2⟩ := ha
  omega
theorem xor_back {a b : Int} (ha : inI a) : bitsOf .i64 (fun x y => x ^^^ y) (bitsOf .i64 (fun x y => x ^^^ y) a b) b = a := by
  have h : ∀ x y : Int, bitsOf .i64 (fun x y => x ^^^ y) x y = IntKind.i64.wrap (((BitVec.ofInt 64 x ^^^ BitVec.ofInt 64 y).toNat : Nat) : Int) := fun _ _ => rfl
  rw [h, h, ofInt_wrap, BitVec.xor_assoc, BitVec.xor_self, BitVec.xor_zero, wrap_ofInt ha]
theorem sh_add (b : Int) : (IntKind.u64.wrap (IntKind.i64.wrap (b + 64))).tmod 64 = (IntKind.u64.wrap b).tmod 64 := by
  rw [IntKind.wrap_u64, IntKind.wrap_u64, IntKind.wrap_i64]
  rw [Int.tmod_eq_emod_of_nonneg (by omega), Int.tmod_eq_emod_of_nonneg (by omega)]
  omega
theorem sh_sub (b : Int) : (IntKind.u64.wrap (IntKind.i64.wrap (b - 64))).tmod 64 = (IntKind.u64.wrap b).tmod 64 := by
  rw [IntKind.wrap_u64, IntKind.wrap_u64, IntKind.wrap_i64]
  rw [Int.tmod_eq_emod_of_nonneg (by omega), Int.tmod_eq_emod_of_nonneg (by omega)]
  omega
theorem sh_nn (b : Int) : ¬ (IntKind.u64.wrap b).tmod 64 < 0 := by
  rw [IntKind.wrap_u64, Int.tmod_eq_emod_of_nonneg (by omega)]
  omega
theorem wrap_id {a : Int} (ha : inI a) : IntKind.i64.wrap a = a := by
  rw [IntKind.wrap_i64]; obtain ⟨h1, h2⟩ := ha; omega
theorem neg_back {a : Int} (ha : inI a) : IntKind.i64.wrap (IntKind.i64.wrap (IntKind.i64.wrap (0 - a) * -1) + 0) = a := by
  simp only [IntKind.wrap_i64]; obtain ⟨h1, h2⟩ := ha; omega
theorem wrap_mul_add (q b r : Int) : IntKind.i64.wrap (IntKind.i64.wrap (IntKind.i64.wrap q * b) + r) = IntKind.i64.wrap (q * b + r) := by
  simp only [IntKind.wrap_i64]
  have h : ∃ k, (q + 9223372036854775808) % 18446744073709551616 - 9223372036854775808 = q + 18446744073709551616 * k := ⟨-((q + 9223372036854775808) / 18446744073709551616), by omega⟩
  obtain ⟨k, hk⟩ := h
  rw [hk, Int.add_mul, Int.mul_assoc]
  generalize q * b = x
  generalize k * b = y
  omega
theorem quo_back {a b : Int} (ha : inI a) : IntKind.i64.wrap (IntKind.i64.wrap (IntKind.i64.wrap (a.tdiv b) * b) + a.tmod b) = a := by
  rw [wrap_mul_add, Int.mul_comm, Int.mul_tdiv_add_tmod, wrap_id ha]
theorem w6 {F : Nat → List Dt → Post → Prop} (h9 : ∀ is Q, s0 is Q → F 9 is Q) {a b : Int} (ha : inI a) (hb : inI b) {Q : Post} (hq : Q 0 [.tru true]) : t6.wp ty F [.num a, .num b] Q := by
  have hx := xor_back (b := b) ha
  have n1 := sh_nn b
  have e1 := sh_add b
  have e2 := sh_sub b
  simp only [t6, T.wp, tyO, true_implies, E.den, A.den, B.den, Cm.den, A.int, Dt.int, List.cons_append, List.nil_append, List.getD_cons_succ, List.getD_cons_zero, List.map_cons, List.map_nil, e1, e2, n1, hx, decide_eq_true_eq, decide_false, Bool.and_self, if_true, if_false, Bool.false_eq_true, beq_self_eq_true]
  have fin : F 9 [] fun c rs => if c = 0 then hasTyL ty rs [] = true → Q 0 [(rs ++ [Dt.tru true]).getD 0 Dt.nil] else if c = 1 then hasTyL ty rs [] = true → False else False :=
    h9 _ _ ⟨rfl, by simp only [if_true]; intro _; exact hq⟩
  by_cases h0 : b = 0
  · rw [if_pos (by rw [h0]; rfl)]
    split <;> exact fin
  · rw [if_neg (by simpa using h0)]
    have hb0 : (b == 0) = false := by simpa using h0
    by_cases h1 : b = -1
    · rw [if_pos (by rw [h1]; rfl)]
      rw [if_neg (by
        rw [hb0, h1, neg_back ha]; simp)]
      split <;> exact fin
    · rw [if_neg (by simpa using h1)]
      rw [if_neg (by
        rw [hb0, quo_back ha]; simp)]
      split <;> exact fin
/-- The law returns true, whatever the numbers. -/
def s6 : List Dt → Post → Prop := fun is Q => ∃ a b, is = [.num a, .num b] ∧ inI a ∧ inI b ∧ Q 0 [.tru true]
def c6 : Ct := (6, 6, g6, s6)
theorem e6 : Ent c6 := ent_of (l := [c9]) (by simp) (ents_cons e9 ents_nil) q6 fun is Q _ h => by
  obtain ⟨a, b, rfl, ha, hb, hq⟩ := h
  exact w6 (fun is Q h => h) ha hb hq

end Go.SYI

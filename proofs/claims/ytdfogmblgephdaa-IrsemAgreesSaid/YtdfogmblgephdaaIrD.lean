/- IRSEM: which behaviours agree. -/
import Derived.Test.YtdfogmblgephdaaIrK
import Derived.Test.YtdfogmblgephdaaSyV
set_option linter.unusedVariables false
set_option linter.unusedSimpArgs false
namespace Go.SYI
open Go Go.SY Go.Proofs Go.RowKit

theorem td2 : tdOf ty 2 = .int .i64 := by kernel_rfl
theorem td3 : tdOf ty 3 = .int .i64 := by kernel_rfl
theorem td4 : tdOf ty 4 = .bool := by kernel_rfl
theorem ag4 : aggB ty 4 = false := by kernel_rfl
theorem td27 : tdOf ty 27 = .slice 2 1 := by kernel_rfl
theorem td29 : tdOf ty 29 = .struct [(27, 0, 1), (3, 1, 1), (3, 2, 1)] true := by kernel_rfl
def g20 : Sig := ⟨[.dat 27, .dat 27], [], ⟨[.dat 4], []⟩, none⟩
def gA : Sig := ⟨[.dat 29, .dat 29], [], ⟨[.dat 4], []⟩, none⟩
def t20 : T := T.br (B.not (B.cmp (Cm.eq) (A.len (A.v 0)) (A.len (A.v 1)))) (T.ret 0 [A.d (Dt.tru false)]) (T.loop 1 [some 4, some 3] [(B.cmp (Cm.lt) (A.v 3) (A.n 0), false)] [A.d (Dt.tru false), A.n 0] (T.br (B.cmp (Cm.lt) (A.v 3) (A.len (A.v 0))) (T.br (B.cmp (Cm.lt) (A.v 3) (A.len (A.v 1))) (T.br (B.not (B.cmp (Cm.eq) (A.idx (A.v 0) (A.v 3)) (A.idx (A.v 1) (A.v 3)))) (T.out 1 (T.ret 0 [A.d (Dt.tru false)])) (T.lt none (E.add (IntKind.i64) (A.v 3) (A.n 1)) (T.again 1 [A.v 2, A.v 4]))) (T.fail 145)) (T.out 1 (T.ret 0 [A.d (Dt.tru true)]))))
theorem qt20 : sxFunc (Xl []) 400 20 g20 = t20 := by kernel_rfl
def t21 : T := T.loop 1 [some 4, some 3] [(B.cmp (Cm.lt) (A.v 3) (A.n 0), false)] [A.d (Dt.tru false), A.n 0] (T.br (B.and (B.cmp (Cm.lt) (A.v 3) (A.len (A.v 0))) (B.cmp (Cm.lt) (A.v 3) (A.len (A.v 1)))) (T.br (B.not (B.cmp (Cm.eq) (A.idx (A.v 0) (A.v 3)) (A.idx (A.v 1) (A.v 3)))) (T.out 1 (T.ret 0 [A.d (Dt.tru false)])) (T.lt none (E.add (IntKind.i64) (A.v 3) (A.n 1)) (T.again 1 [A.v 2, A.v 4]))) (T.out 1 (T.lt none (E.boo (B.not (B.cmp (Cm.lt) (A.len (A.v 1)) (A.len (A.v 0))))) (T.ret 0 [A.v 4]))))
theorem qt21 : sxFunc (Xl []) 400 21 g20 = t21 := by kernel_rfl
def eqI (x y : Dt) : Bool := x.ints == y.ints
def begI (x y : Dt) : Bool := x.ints.isPrefixOf y.ints
def arg (is : List Dt) (i : Nat) : Dt := is.getD i .nil
def c20 : Ct := (20, 20, g20, sF fun is => [.tru (eqI (arg is 0) (arg is 1))])
def c21 : Ct := (21, 21, g20, sF fun is => [.tru (begI (arg is 0) (arg is 1))])
theorem ints_len {x : Dt} : x.ints.length = x.list.length := by simp [Dt.ints]
theorem take_succ' {l m : List Int} {i : Nat} (h : l.take i = m.take i) (hl : i < l.length) (hm : i < m.length) (he : l.getD i 0 = m.getD i 0) : l.take (i + 1) = m.take (i + 1) := by
  simp only [List.getD_eq_getElem?_getD, List.getElem?_eq_getElem hl, List.getElem?_eq_getElem hm, Option.getD_some] at he
  rw [List.take_succ_eq_append_getElem hl, List.take_succ_eq_append_getElem hm, h, he]
theorem take_ne {l m : List Int} {i : Nat} (he : l.getD i 0 ≠ m.getD i 0) : l.take (i + 1) ≠ m.take (i + 1) := by
  intro h
  apply he
  have := congrArg (fun x => x.getD i 0) h
  simpa [List.getD_eq_getElem?_getD, List.getElem?_take] using this
theorem w20 {F : Nat → List Dt → Post → Prop} (hF : FMono F) {x y : Dt} {Q : Post} (hx : x.isSl) (hy : y.isSl) (lx : x.list.length < 9223372036854775808) (hq : Q 0 [.tru (eqI x y)]) : t20.wp ty F [x, y] Q := by
  unfold t20
  simp only [wp_br, wp_ret, wp_lt, wp_again, wp_out, wp_fail, B.den, Cm.den, A.int, A.den, int_num, List.getD_cons_zero, List.getD_cons_succ, List.map_cons, List.map_nil, Bool.not_eq_true', hx.len, hy.len]
  by_cases hl : x.list.length = y.list.length
  · have hl' : ¬ (((x.list.length : Int) == (y.list.length : Int)) = false) := by simp [hl]
    rw [if_neg hl']
    refine wp_loop_inv hF (fun n s => ∃ (b : Bool) (i : Nat), s = [.tru b, .num i] ∧ i + n = x.list.length ∧ x.ints.take i = y.ints.take i) x.list.length ?_ ?_ ?_
    · exact ⟨false, 0, rfl, by omega, rfl⟩
    · rintro n s ⟨b, i, rfl, _, _⟩
      simp [factsB, B.den, Cm.den, A.int, A.den, Dt.int]
    · rintro n s ⟨b, i, rfl, hi, ht⟩ _
      simp only [wp_br, wp_ret, wp_lt, wp_again, wp_out, wp_fail, B.den, Cm.den, A.int, A.den, int_num, List.cons_append, List.nil_append, List.getD_cons_zero, List.getD_cons_succ, List.map_cons, List.map_nil, hx.len, hy.len, decide_eq_true_eq, Bool.not_eq_true', Int.toNat_natCast, ints_idx hx, ints_idx hy, E.den, tyO, true_implies]
      by_cases hlt : i < x.list.length
      · rw [if_pos (by omega), if_pos (by omega)]
        by_cases he : x.ints.getD i 0 = y.ints.getD i 0
        · rw [if_neg (by simpa using he)]
          simp only [if_true]
          refine ⟨n - 1, by omega, b, i + 1, ?_, by omega, take_succ' ht (by rw [ints_len]; omega) (by rw [ints_len]; omega) he⟩
          rw [add1 hlt lx]
        · rw [if_pos (by simpa using he)]
          refine ⟨by decide, ?_⟩
          rw [if_neg (by decide)]
          have : eqI x y = false := by
            simp only [eqI, beq_eq_false_iff_ne, ne_eq]
            intro h
            exact take_ne he (by rw [h])
          rw [← this]; exact hq
      · rw [if_neg (by omega)]
        refine ⟨by decide, ?_⟩
        rw [if_neg (by decide)]
        have : eqI x y = true := by
          simp only [eqI, beq_iff_eq]
          rw [List.take_of_length_le (by rw [ints_len]; omega), List.take_of_length_le (by rw [ints_len]; omega)] at ht
          exact ht
        rw [← this]; exact hq
  · have hl' : ((x.list.length : Int) == (y.list.length : Int)) = false := by simp; omega
    rw [if_pos hl']
    have : eqI x y = false := by
      simp only [eqI, beq_eq_false_iff_ne, ne_eq]
      intro h
      have := congrArg List.length h
      simp only [ints_len] at this
      exact hl this
    rw [← this]; exact hq
theorem w21 {F : Nat → List Dt → Post → Prop} (hF : FMono F) {x y : Dt} {Q : Post} (hx : x.isSl) (hy : y.isSl) (lx : x.list.length < 9223372036854775808) (hq : Q 0 [.tru (begI x y)]) : t21.wp ty F [x, y] Q := by
  unfold t21
  refine wp_loop_inv hF (fun n s => ∃ (b : Bool) (i : Nat), s = [.tru b, .num i] ∧ i + n = x.list.length ∧ i ≤ y.list.length ∧ x.ints.take i = y.ints.take i) x.list.length ?_ ?_ ?_
  · exact ⟨false, 0, rfl, by omega, by omega, rfl⟩
  · rintro n s ⟨b, i, rfl, _, _⟩
    simp [factsB, B.den, Cm.den, A.int, A.den, Dt.int]
  · rintro n s ⟨b, i, rfl, hi, hiy, ht⟩ _
    simp only [wp_br, wp_ret, wp_lt, wp_again, wp_out, wp_fail, B.den, Cm.den, A.int, A.den, int_num, List.cons_append, List.nil_append, List.getD_cons_zero, List.getD_cons_succ, List.map_cons, List.map_nil, hx.len, hy.len, decide_eq_true_eq, Bool.not_eq_true', Int.toNat_natCast, ints_idx hx, ints_idx hy, E.den, tyO, true_implies, Bool.and_eq_true]
    by_cases hlt : i < x.list.length ∧ i < y.list.length
    · rw [if_pos ⟨by omega, by omega⟩]
      by_cases he : x.ints.getD i 0 = y.ints.getD i 0
      · rw [if_neg (by simpa using he)]
        simp only [if_true]
        refine ⟨n - 1, by omega, b, i + 1, ?_, by omega, by omega, take_succ' ht (by rw [ints_len]; omega) (by rw [ints_len]; omega) he⟩
        rw [add1 hlt.1 lx]
      · rw [if_pos (by simpa using he)]
        refine ⟨by decide, ?_⟩
        rw [if_neg (by decide)]
        have : begI x y = false := by
          rw [begI, Bool.eq_false_iff]
          intro h
          obtain ⟨r, hr⟩ := List.isPrefixOf_iff_prefix.1 h
          refine take_ne he ?_
          rw [← hr, List.take_append_of_le_length (by rw [ints_len]; omega)]
        rw [← this]; exact hq
    · rw [if_neg (by omega)]
      refine ⟨by decide, ?_⟩
      rw [if_neg (by decide)]
      have : begI x y = !decide ((y.list.length : Int) < (x.list.length : Int)) := by
        rw [begI]
        by_cases hxy : y.list.length < x.list.length
        · rw [decide_eq_true (by omega), Bool.not_true, Bool.eq_false_iff]
          intro h
          have := (List.isPrefixOf_iff_prefix.1 h).length_le
          simp only [ints_len] at this
          omega
        · rw [decide_eq_false (by omega), Bool.not_false, List.isPrefixOf_iff_prefix]
          have hi' : i = x.list.length := by omega
          rw [List.prefix_iff_eq_take, ints_len, ← hi']
          rw [← ht, List.take_of_length_le (by rw [ints_len]; omega)]
      rw [← this]; exact hq
theorem e20 : Ent X c20 := ent_of' XOk (l := []) rfl ents_nil qt20 sF_mono fun hF is Q h hq => by
  obtain ⟨x, y, rfl, hx, hy⟩ := ty2 h
  exact w20 hF (sl_of td27 hx).1 (sl_of td27 hy).1 (sl_of td27 hx).2.1 hq
theorem e21 : Ent X c21 := ent_of' XOk (l := []) rfl ents_nil qt21 sF_mono fun hF is Q h hq => by
  obtain ⟨x, y, rfl, hx, hy⟩ := ty2 h
  exact w21 hF (sl_of td27 hx).1 (sl_of td27 hy).1 (sl_of td27 hx).2.1 hq

def t10 : T := T.br (B.and (B.cmp (Cm.eq) (A.fld (A.v 0) 1) (A.fld (A.v 1) 1)) (B.cmp (Cm.eq) (A.fld (A.v 0) 2) (A.fld (A.v 1) 2))) (T.call 20 [A.fld (A.v 0) 0, A.fld (A.v 1) 0] [4] (T.br (B.and (B.and (B.cmp (Cm.eq) (A.fld (A.v 0) 1) (A.fld (A.v 1) 1)) (B.cmp (Cm.eq) (A.fld (A.v 0) 2) (A.fld (A.v 1) 2))) (B.is (A.v 2))) (T.ret 0 [A.d (Dt.tru true)]) (T.br (B.cmp (Cm.eq) (A.fld (A.v 0) 1) (A.n 4)) (T.lt none (E.cut (A.fld (A.v 1) 0) (A.n 0) (A.len (A.fld (A.v 0) 0))) (T.br (B.not (B.cmp (Cm.lt) (A.len (A.fld (A.v 1) 0)) (A.len (A.fld (A.v 0) 0)))) (T.call 20 [A.fld (A.v 0) 0, A.v 3] [4] (T.br (B.and (B.not (B.and (B.cmp (Cm.eq) (A.fld (A.v 0) 1) (A.n 4)) (B.and (B.not (B.cmp (Cm.lt) (A.len (A.fld (A.v 1) 0)) (A.len (A.fld (A.v 0) 0)))) (B.is (A.v 4))))) (B.cmp (Cm.eq) (A.fld (A.v 1) 1) (A.n 4))) (T.lt none (E.cut (A.fld (A.v 0) 0) (A.n 0) (A.len (A.fld (A.v 1) 0))) (T.br (B.not (B.cmp (Cm.lt) (A.len (A.fld (A.v 0) 0)) (A.len (A.fld (A.v 1) 0)))) (T.call 20 [A.fld (A.v 1) 0, A.v 5] [4] (T.lt none (E.boo (B.or (B.and (B.cmp (Cm.eq) (A.fld (A.v 0) 1) (A.n 4)) (B.and (B.not (B.cmp (Cm.lt) (A.len (A.fld (A.v 1) 0)) (A.len (A.fld (A.v 0) 0)))) (B.is (A.v 4)))) (B.and (B.cmp (Cm.eq) (A.fld (A.v 1) 1) (A.n 4)) (B.and (B.not (B.cmp (Cm.lt) (A.len (A.fld (A.v 0) 0)) (A.len (A.fld (A.v 1) 0)))) (B.is (A.v 6)))))) (T.ret 0 [A.v 7])) [] (T.fail 345)) (T.lt none (E.boo (B.and (B.cmp (Cm.eq) (A.fld (A.v 0) 1) (A.n 4)) (B.and (B.not (B.cmp (Cm.lt) (A.len (A.fld (A.v 1) 0)) (A.len (A.fld (A.v 0) 0)))) (B.is (A.v 4))))) (T.ret 0 [A.v 6])))) (T.br (B.not (B.and (B.cmp (Cm.eq) (A.fld (A.v 0) 1) (A.n 4)) (B.and (B.not (B.cmp (Cm.lt) (A.len (A.fld (A.v 1) 0)) (A.len (A.fld (A.v 0) 0)))) (B.is (A.v 4))))) (T.lt none (E.boo (B.and (B.cmp (Cm.eq) (A.fld (A.v 0) 1) (A.n 4)) (B.and (B.not (B.cmp (Cm.lt) (A.len (A.fld (A.v 1) 0)) (A.len (A.fld (A.v 0) 0)))) (B.is (A.v 4))))) (T.ret 0 [A.v 5])) (T.ret 0 [A.d (Dt.tru true)]))) [] (T.fail 345)) (T.br (B.cmp (Cm.eq) (A.fld (A.v 1) 1) (A.n 4)) (T.lt none (E.cut (A.fld (A.v 0) 0) (A.n 0) (A.len (A.fld (A.v 1) 0))) (T.br (B.not (B.cmp (Cm.lt) (A.len (A.fld (A.v 0) 0)) (A.len (A.fld (A.v 1) 0)))) (T.call 20 [A.fld (A.v 1) 0, A.v 4] [4] (T.lt none (E.boo (B.and (B.cmp (Cm.eq) (A.fld (A.v 1) 1) (A.n 4)) (B.and (B.not (B.cmp (Cm.lt) (A.len (A.fld (A.v 0) 0)) (A.len (A.fld (A.v 1) 0)))) (B.is (A.v 5))))) (T.ret 0 [A.v 6])) [] (T.fail 345)) (T.ret 0 [A.d (Dt.tru false)]))) (T.ret 0 [A.d (Dt.tru false)])))) (T.br (B.cmp (Cm.eq) (A.fld (A.v 1) 1) (A.n 4)) (T.lt none (E.cut (A.fld (A.v 0) 0) (A.n 0) (A.len (A.fld (A.v 1) 0))) (T.br (B.not (B.cmp (Cm.lt) (A.len (A.fld (A.v 0) 0)) (A.len (A.fld (A.v 1) 0)))) (T.call 20 [A.fld (A.v 1) 0, A.v 3] [4] (T.lt none (E.boo (B.and (B.cmp (Cm.eq) (A.fld (A.v 1) 1) (A.n 4)) (B.and (B.not (B.cmp (Cm.lt) (A.len (A.fld (A.v 0) 0)) (A.len (A.fld (A.v 1) 0)))) (B.is (A.v 4))))) (T.ret 0 [A.v 5])) [] (T.fail 345)) (T.ret 0 [A.d (Dt.tru false)]))) (T.ret 0 [A.d (Dt.tru false)])))) [] (T.fail 345)) (T.br (B.cmp (Cm.eq) (A.fld (A.v 0) 1) (A.n 4)) (T.lt none (E.cut (A.fld (A.v 1) 0) (A.n 0) (A.len (A.fld (A.v 0) 0))) (T.br (B.not (B.cmp (Cm.lt) (A.len (A.fld (A.v 1) 0)) (A.len (A.fld (A.v 0) 0)))) (T.call 20 [A.fld (A.v 0) 0, A.v 2] [4] (T.br (B.and (B.not (B.and (B.cmp (Cm.eq) (A.fld (A.v 0) 1) (A.n 4)) (B.and (B.not (B.cmp (Cm.lt) (A.len (A.fld (A.v 1) 0)) (A.len (A.fld (A.v 0) 0)))) (B.is (A.v 3))))) (B.cmp (Cm.eq) (A.fld (A.v 1) 1) (A.n 4))) (T.lt none (E.cut (A.fld (A.v 0) 0) (A.n 0) (A.len (A.fld (A.v 1) 0))) (T.br (B.not (B.cmp (Cm.lt) (A.len (A.fld (A.v 0) 0)) (A.len (A.fld (A.v 1) 0)))) (T.call 20 [A.fld (A.v 1) 0, A.v 4] [4] (T.lt none (E.boo (B.or (B.and (B.cmp (Cm.eq) (A.fld (A.v 0) 1) (A.n 4)) (B.and (B.not (B.cmp (Cm.lt) (A.len (A.fld (A.v 1) 0)) (A.len (A.fld (A.v 0) 0)))) (B.is (A.v 3)))) (B.and (B.cmp (Cm.eq) (A.fld (A.v 1) 1) (A.n 4)) (B.and (B.not (B.cmp (Cm.lt) (A.len (A.fld (A.v 0) 0)) (A.len (A.fld (A.v 1) 0)))) (B.is (A.v 5)))))) (T.ret 0 [A.v 6])) [] (T.fail 345)) (T.lt none (E.boo (B.and (B.cmp (Cm.eq) (A.fld (A.v 0) 1) (A.n 4)) (B.and (B.not (B.cmp (Cm.lt) (A.len (A.fld (A.v 1) 0)) (A.len (A.fld (A.v 0) 0)))) (B.is (A.v 3))))) (T.ret 0 [A.v 5])))) (T.br (B.not (B.and (B.cmp (Cm.eq) (A.fld (A.v 0) 1) (A.n 4)) (B.and (B.not (B.cmp (Cm.lt) (A.len (A.fld (A.v 1) 0)) (A.len (A.fld (A.v 0) 0)))) (B.is (A.v 3))))) (T.lt none (E.boo (B.and (B.cmp (Cm.eq) (A.fld (A.v 0) 1) (A.n 4)) (B.and (B.not (B.cmp (Cm.lt) (A.len (A.fld (A.v 1) 0)) (A.len (A.fld (A.v 0) 0)))) (B.is (A.v 3))))) (T.ret 0 [A.v 4])) (T.ret 0 [A.d (Dt.tru true)]))) [] (T.fail 345)) (T.br (B.cmp (Cm.eq) (A.fld (A.v 1) 1) (A.n 4)) (T.lt none (E.cut (A.fld (A.v 0) 0) (A.n 0) (A.len (A.fld (A.v 1) 0))) (T.br (B.not (B.cmp (Cm.lt) (A.len (A.fld (A.v 0) 0)) (A.len (A.fld (A.v 1) 0)))) (T.call 20 [A.fld (A.v 1) 0, A.v 3] [4] (T.lt none (E.boo (B.and (B.cmp (Cm.eq) (A.fld (A.v 1) 1) (A.n 4)) (B.and (B.not (B.cmp (Cm.lt) (A.len (A.fld (A.v 0) 0)) (A.len (A.fld (A.v 1) 0)))) (B.is (A.v 4))))) (T.ret 0 [A.v 5])) [] (T.fail 345)) (T.ret 0 [A.d (Dt.tru false)]))) (T.ret 0 [A.d (Dt.tru false)])))) (T.br (B.cmp (Cm.eq) (A.fld (A.v 1) 1) (A.n 4)) (T.lt none (E.cut (A.fld (A.v 0) 0) (A.n 0) (A.len (A.fld (A.v 1) 0))) (T.br (B.not (B.cmp (Cm.lt) (A.len (A.fld (A.v 0) 0)) (A.len (A.fld (A.v 1) 0)))) (T.call 20 [A.fld (A.v 1) 0, A.v 2] [4] (T.lt none (E.boo (B.and (B.cmp (Cm.eq) (A.fld (A.v 1) 1) (A.n 4)) (B.and (B.not (B.cmp (Cm.lt) (A.len (A.fld (A.v 0) 0)) (A.len (A.fld (A.v 1) 0)))) (B.is (A.v 3))))) (T.ret 0 [A.v 4])) [] (T.fail 345)) (T.ret 0 [A.d (Dt.tru false)]))) (T.ret 0 [A.d (Dt.tru false)])))
theorem qt10 : sxFunc (Xl [c20]) 400 10 gA = t10 := by kernel_rfl
def t14 : T := T.br (B.and (B.and (B.cmp (Cm.eq) (A.fld (A.v 0) 1) (A.fld (A.v 1) 1)) (B.cmp (Cm.eq) (A.fld (A.v 0) 2) (A.fld (A.v 1) 2))) (B.cmp (Cm.eq) (A.len (A.fld (A.v 0) 0)) (A.len (A.fld (A.v 1) 0)))) (T.call 21 [A.fld (A.v 0) 0, A.fld (A.v 1) 0] [4] (T.lt none (E.boo (B.and (B.and (B.and (B.cmp (Cm.eq) (A.fld (A.v 0) 1) (A.fld (A.v 1) 1)) (B.cmp (Cm.eq) (A.fld (A.v 0) 2) (A.fld (A.v 1) 2))) (B.cmp (Cm.eq) (A.len (A.fld (A.v 0) 0)) (A.len (A.fld (A.v 1) 0)))) (B.is (A.v 2)))) (T.ret 0 [A.v 3])) [] (T.fail 345)) (T.ret 0 [A.d (Dt.tru false)])
theorem qt14 : sxFunc (Xl [c21]) 400 14 gA = t14 := by kernel_rfl
/-- Which behaviours agree, as the program has it. -/
def agI (a b : Dt) : Bool :=
  ((a.fld 1).int == (b.fld 1).int && (a.fld 2).int == (b.fld 2).int && eqI (a.fld 0) (b.fld 0)) ||
  ((a.fld 1).int == 4 && (!decide (((b.fld 0).len : Int) < ((a.fld 0).len : Int)) && eqI (a.fld 0) ((b.fld 0).cut 0 (a.fld 0).len))) ||
  ((b.fld 1).int == 4 && (!decide (((a.fld 0).len : Int) < ((b.fld 0).len : Int)) && eqI (b.fld 0) ((a.fld 0).cut 0 (b.fld 0).len)))
def equI (a b : Dt) : Bool := (a.fld 1).int == (b.fld 1).int && (a.fld 2).int == (b.fld 2).int && ((a.fld 0).len : Int) == ((b.fld 0).len : Int) && begI (a.fld 0) (b.fld 0)
def c10 : Ct := (10, 10, gA, sF fun is => [.tru (agI (arg is 0) (arg is 1))])
def c14 : Ct := (14, 14, gA, sF fun is => [.tru (equI (arg is 0) (arg is 1))])
theorem w10 {a b : Dt} {Q : Post} (hq : Q 0 [.tru (agI a b)]) : t10.wp ty (fOf [c20]) [a, b] Q := by
  have h20 : fOf [c20] 20 = fun is Q => Q 0 [.tru (eqI (arg is 0) (arg is 1))] := rfl
  unfold t10
  unfold agI at hq
  simp only [wp_br', wp_ret, wp_lt, wp_call, wp_fail, h20, B.den, Cm.den, A.int, A.den, E.den, int_num, bool_tru, arg, tyO, true_implies, List.cons_append, List.nil_append, List.getD_cons_zero, List.getD_cons_succ, List.map_cons, List.map_nil, if_true, Int.toNat_natCast, Int.toNat_zero]
  generalize ((a.fld 1).int == (b.fld 1).int) = p1 at hq ⊢
  generalize ((a.fld 2).int == (b.fld 2).int) = p2 at hq ⊢
  generalize ((a.fld 1).int == 4) = p3 at hq ⊢
  generalize ((b.fld 1).int == 4) = p4 at hq ⊢
  generalize (decide (((b.fld 0).len : Int) < ((a.fld 0).len : Int))) = p5 at hq ⊢
  generalize (decide (((a.fld 0).len : Int) < ((b.fld 0).len : Int))) = p6 at hq ⊢
  generalize eqI (a.fld 0) (b.fld 0) = p7 at hq ⊢
  generalize eqI (a.fld 0) ((b.fld 0).cut 0 (a.fld 0).len) = p8 at hq ⊢
  generalize eqI (b.fld 0) ((a.fld 0).cut 0 (b.fld 0).len) = p9 at hq ⊢
  clear h20
  repeat' (first | apply And.intro | intro _)
  all_goals refine Eq.mpr (congrArg (fun b => Q 0 [Dt.tru b]) ?_) hq
  all_goals clear hq
  all_goals simp_all
theorem w14 {a b : Dt} {Q : Post} (hq : Q 0 [.tru (equI a b)]) : t14.wp ty (fOf [c21]) [a, b] Q := by
  have h21 : fOf [c21] 21 = fun is Q => Q 0 [.tru (begI (arg is 0) (arg is 1))] := rfl
  unfold t14
  unfold equI at hq
  simp only [wp_br', wp_ret, wp_lt, wp_call, wp_fail, h21, B.den, Cm.den, A.int, A.den, E.den, int_num, bool_tru, arg, tyO, true_implies, List.cons_append, List.nil_append, List.getD_cons_zero, List.getD_cons_succ, List.map_cons, List.map_nil, if_true, Int.toNat_natCast, Int.toNat_zero]
  generalize ((a.fld 1).int == (b.fld 1).int) = p1 at hq ⊢
  generalize ((a.fld 2).int == (b.fld 2).int) = p2 at hq ⊢
  generalize (((a.fld 0).len : Int) == ((b.fld 0).len : Int)) = p3 at hq ⊢
  generalize begI (a.fld 0) (b.fld 0) = p4 at hq ⊢
  clear h21
  repeat' (first | apply And.intro | intro _)
  all_goals refine Eq.mpr (congrArg (fun b => Q 0 [Dt.tru b]) ?_) hq
  all_goals clear hq
  all_goals simp_all
def agR (a b : Dt) : Bool := equI a b || ((a.fld 1).int == 4 && begI (a.fld 0) (b.fld 0)) || ((b.fld 1).int == 4 && begI (b.fld 0) (a.fld 0))
def c11 : Ct := (11, 11, gA, sF fun is => [.tru (agR (arg is 0) (arg is 1))])
def t11 : T := T.call 14 [A.v 0, A.v 1] [4] (T.br (B.and (B.not (B.is (A.v 2))) (B.cmp (Cm.eq) (A.fld (A.v 0) 1) (A.n 4))) (T.call 21 [A.fld (A.v 0) 0, A.fld (A.v 1) 0] [4] (T.br (B.and (B.not (B.or (B.is (A.v 2)) (B.and (B.cmp (Cm.eq) (A.fld (A.v 0) 1) (A.n 4)) (B.is (A.v 3))))) (B.cmp (Cm.eq) (A.fld (A.v 1) 1) (A.n 4))) (T.call 21 [A.fld (A.v 1) 0, A.fld (A.v 0) 0] [4] (T.lt none (E.boo (B.or (B.or (B.is (A.v 2)) (B.and (B.cmp (Cm.eq) (A.fld (A.v 0) 1) (A.n 4)) (B.is (A.v 3)))) (B.and (B.cmp (Cm.eq) (A.fld (A.v 1) 1) (A.n 4)) (B.is (A.v 4))))) (T.ret 0 [A.v 5])) [] (T.fail 345)) (T.br (B.not (B.or (B.is (A.v 2)) (B.and (B.cmp (Cm.eq) (A.fld (A.v 0) 1) (A.n 4)) (B.is (A.v 3))))) (T.lt none (E.boo (B.or (B.is (A.v 2)) (B.and (B.cmp (Cm.eq) (A.fld (A.v 0) 1) (A.n 4)) (B.is (A.v 3))))) (T.ret 0 [A.v 4])) (T.ret 0 [A.d (Dt.tru true)]))) [] (T.fail 345)) (T.br (B.not (B.is (A.v 2))) (T.br (B.cmp (Cm.eq) (A.fld (A.v 1) 1) (A.n 4)) (T.call 21 [A.fld (A.v 1) 0, A.fld (A.v 0) 0] [4] (T.lt none (E.boo (B.or (B.is (A.v 2)) (B.and (B.cmp (Cm.eq) (A.fld (A.v 1) 1) (A.n 4)) (B.is (A.v 3))))) (T.ret 0 [A.v 4])) [] (T.fail 345)) (T.ret 0 [A.v 2])) (T.ret 0 [A.d (Dt.tru true)]))) [] (T.fail 345)
theorem qt11 : sxFunc (Xl [c14,c21]) 400 11 gA = t11 := by kernel_rfl
theorem w11 {a b : Dt} {Q : Post} (hq : Q 0 [.tru (agR a b)]) : t11.wp ty (fOf [c14, c21]) [a, b] Q := by
  have h21 : fOf [c14, c21] 21 = fun is Q => Q 0 [.tru (begI (arg is 0) (arg is 1))] := rfl
  have h14 : fOf [c14, c21] 14 = fun is Q => Q 0 [.tru (equI (arg is 0) (arg is 1))] := rfl
  unfold t11
  unfold agR at hq
  simp only [wp_br', wp_ret, wp_lt, wp_call, wp_fail, h21, h14, B.den, Cm.den, A.int, A.den, E.den, int_num, bool_tru, arg, tyO, true_implies, List.cons_append, List.nil_append, List.getD_cons_zero, List.getD_cons_succ, List.map_cons, List.map_nil, if_true, Int.toNat_natCast, Int.toNat_zero]
  generalize ((a.fld 1).int == 4) = p1 at hq ⊢
  generalize ((b.fld 1).int == 4) = p2 at hq ⊢
  generalize begI (a.fld 0) (b.fld 0) = p3 at hq ⊢
  generalize begI (b.fld 0) (a.fld 0) = p4 at hq ⊢
  generalize equI a b = p5 at hq ⊢
  clear h21 h14
  repeat' (first | apply And.intro | intro _)
  all_goals refine Eq.mpr (congrArg (fun b => Q 0 [Dt.tru b]) ?_) hq
  all_goals clear hq
  all_goals simp_all
theorem e10 : Ent X c10 := ent_of XOk (l := [c20]) rfl (ents_cons e20 ents_nil) qt10 sF_mono fun is Q h hq => by
  obtain ⟨x, y, rfl, hx, hy⟩ := ty2 h
  exact w10 hq
theorem e14 : Ent X c14 := ent_of XOk (l := [c21]) rfl (ents_cons e21 ents_nil) qt14 sF_mono fun is Q h hq => by
  obtain ⟨x, y, rfl, hx, hy⟩ := ty2 h
  exact w14 hq
theorem e11 : Ent X c11 := ent_of XOk (l := [c14, c21]) rfl (ents_cons e14 (ents_cons e21 ents_nil)) qt11 sF_mono fun is Q h hq => by
  obtain ⟨x, y, rfl, hx, hy⟩ := ty2 h
  exact w11 hq

/-! ### The plain law -/
theorem cut_ints {x : Dt} (h : x.isSl) (n : Nat) : (x.cut 0 n).ints = x.ints.take n := by
  rcases h with rfl | ⟨l, rfl⟩
  · simp [Dt.cut, Dt.ints, Dt.list]
  · simp [Dt.cut, Dt.ints, Dt.list]
theorem beg_eq {x y : Dt} (hx : x.isSl) (hy : y.isSl) : (!decide ((y.len : Int) < (x.len : Int)) && eqI x (y.cut 0 x.len)) = begI x y := by
  rw [hx.len, hy.len, eqI, begI, cut_ints hy, Bool.eq_iff_iff]
  simp only [Bool.and_eq_true, Bool.not_eq_true', decide_eq_false_iff_not, beq_iff_eq, List.isPrefixOf_iff_prefix]
  rw [List.prefix_iff_eq_take, ints_len]
  constructor
  · exact fun h => h.2
  · intro h
    refine ⟨?_, h⟩
    have := congrArg List.length h
    simp only [ints_len, List.length_take] at this
    omega
theorem equ_eq {x y : Dt} (hx : x.isSl) (hy : y.isSl) : (((x.len : Int) == (y.len : Int)) && begI x y) = eqI x y := by
  rw [hx.len, hy.len, eqI, begI, Bool.eq_iff_iff]
  simp only [Bool.and_eq_true, beq_iff_eq, List.isPrefixOf_iff_prefix]
  constructor
  · rintro ⟨h1, h2⟩
    exact h2.eq_of_length (by rw [ints_len, ints_len]; omega)
  · intro h
    refine ⟨?_, by rw [h]; exact List.prefix_refl _⟩
    have := congrArg List.length h
    simp only [ints_len] at this
    omega
theorem agI_eq {a b : Dt} (ha : (a.fld 0).isSl) (hb : (b.fld 0).isSl) : agI a b = agR a b := by
  unfold agI agR equI
  rw [beg_eq ha hb, beg_eq hb ha, Bool.and_assoc ((a.fld 1).int == (b.fld 1).int && (a.fld 2).int == (b.fld 2).int), equ_eq ha hb]
theorem agI_comm {a b : Dt} (ha : (a.fld 0).isSl) (hb : (b.fld 0).isSl) : agI a b = agI b a := by
  unfold agI
  rw [beg_eq ha hb, beg_eq hb ha]
  have h1 : ((b.fld 1).int == (a.fld 1).int) = ((a.fld 1).int == (b.fld 1).int) := by rw [Bool.eq_iff_iff]; simp only [beq_iff_eq]; exact eq_comm
  have h2 : ((b.fld 2).int == (a.fld 2).int) = ((a.fld 2).int == (b.fld 2).int) := by rw [Bool.eq_iff_iff]; simp only [beq_iff_eq]; exact eq_comm
  have h3 : eqI (b.fld 0) (a.fld 0) = eqI (a.fld 0) (b.fld 0) := by simp only [eqI]; rw [Bool.eq_iff_iff]; simp only [beq_iff_eq]; exact eq_comm
  rw [h1, h2, h3, Bool.or_assoc, Bool.or_assoc, Bool.or_comm ((a.fld 1).int == 4 && begI (a.fld 0) (b.fld 0))]
theorem agI_self (a : Dt) : agI a a = true := by
  unfold agI eqI
  simp
def c4 : Ct := (4, 4, gA, trueS)
def l4 : List Ct := [c10, c11, c9]
def t4 : T := T.br (B.or (B.cmp (Cm.lt) (A.n 3000) (A.len (A.fld (A.v 0) 0))) (B.cmp (Cm.lt) (A.n 3000) (A.len (A.fld (A.v 1) 0)))) (T.call 9 [] [] (T.ret 0 [A.d (Dt.tru true)]) [] (T.fail 345)) (T.call 10 [A.v 0, A.v 1] [4] (T.call 11 [A.v 0, A.v 1] [4] (T.br (B.or (B.and (B.is (A.v 2)) (B.is (A.v 3))) (B.and (B.not (B.is (A.v 2))) (B.not (B.is (A.v 3))))) (T.call 10 [A.v 1, A.v 0] [4] (T.br (B.and (B.or (B.and (B.is (A.v 2)) (B.is (A.v 3))) (B.and (B.not (B.is (A.v 2))) (B.not (B.is (A.v 3))))) (B.or (B.and (B.is (A.v 2)) (B.is (A.v 4))) (B.and (B.not (B.is (A.v 2))) (B.not (B.is (A.v 4)))))) (T.call 10 [A.v 0, A.v 0] [4] (T.br (B.and (B.and (B.or (B.and (B.is (A.v 2)) (B.is (A.v 3))) (B.and (B.not (B.is (A.v 2))) (B.not (B.is (A.v 3))))) (B.or (B.and (B.is (A.v 2)) (B.is (A.v 4))) (B.and (B.not (B.is (A.v 2))) (B.not (B.is (A.v 4)))))) (B.is (A.v 5))) (T.call 9 [] [] (T.lt none (E.boo (B.and (B.and (B.or (B.and (B.is (A.v 2)) (B.is (A.v 3))) (B.and (B.not (B.is (A.v 2))) (B.not (B.is (A.v 3))))) (B.or (B.and (B.is (A.v 2)) (B.is (A.v 4))) (B.and (B.not (B.is (A.v 2))) (B.not (B.is (A.v 4)))))) (B.is (A.v 5)))) (T.ret 0 [A.v 6])) [] (T.fail 345)) (T.ret 0 [A.d (Dt.tru false)])) [] (T.fail 345)) (T.ret 0 [A.d (Dt.tru false)])) [] (T.fail 345)) (T.ret 0 [A.d (Dt.tru false)])) [] (T.fail 345)) [] (T.fail 345))
theorem qt4 : sxFunc (Xl l4) 400 4 gA = t4 := by kernel_rfl
theorem w4 {a b : Dt} {Q : Post} (ha : (a.fld 0).isSl) (hb : (b.fld 0).isSl) (hq : Q 0 [.tru true]) : t4.wp ty (fOf l4) [a, b] Q := by
  have h10 : fOf l4 10 = fun is Q => Q 0 [.tru (agI (arg is 0) (arg is 1))] := rfl
  have h11 : fOf l4 11 = fun is Q => Q 0 [.tru (agR (arg is 0) (arg is 1))] := rfl
  have h9 : fOf l4 9 = fun is Q => is = [] ∧ Q 0 [] := rfl
  unfold t4
  simp only [wp_br', wp_ret, wp_lt, wp_call, wp_fail, h10, h11, h9, B.den, Cm.den, A.int, A.den, E.den, int_num, bool_tru, arg, tyO, true_implies, List.cons_append, List.nil_append, List.getD_cons_zero, List.getD_cons_succ, List.map_cons, List.map_nil, if_true, Int.toNat_natCast, Int.toNat_zero]
  rw [← agI_comm ha hb, ← agI_eq ha hb, agI_self]
  generalize agI a b = p1
  generalize decide ((3000 : Int) < _) = p2
  generalize decide ((3000 : Int) < _) = p3
  clear h10 h11 h9
  cases p1 <;> simp_all [hasTyL] <;> exact ⟨fun _ => hq, by intros; exact hq⟩
theorem e4 : Ent X c4 := ent_of XOk (l := l4) rfl (ents_cons e10 (ents_cons e11 (ents_cons e9 ents_nil))) qt4 sF_mono fun is Q h hq => by
  obtain ⟨x, y, rfl, hx, hy⟩ := ty2 h
  obtain ⟨l, rfl, hl⟩ := tup_of td29 hx
  obtain ⟨m, rfl, hm⟩ := tup_of td29 hy
  refine w4 ?_ ?_ hq
  · match l, hl with
    | x :: _, hl =>
      simp only [hasTyF, Bool.and_eq_true] at hl
      exact (sl_of td27 hl.1).1
  · match m, hm with
    | x :: _, hm =>
      simp only [hasTyF, Bool.and_eq_true] at hm
      exact (sl_of td27 hm.1).1

end Go.SYI

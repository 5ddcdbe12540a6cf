/- SEM: which behaviours agree. -/
import Derived.Test.YtolebnomgllgaaaGreatDoorSgA
import Derived.Test.YtolebnomgllgaaaGreatDoorSyV
set_option linter.unusedVariables false
set_option linter.unusedSimpArgs false
namespace Go.SYG
open Go Go.SY Go.Proofs Go.RowKit
noncomputable section
noncomputable def Xl (l : List Ct) : Cfg := X.cfg l unNo noOw false
theorem td2 : tdOf ty 2 = .int .i64 := by kernel_rfl
theorem td3 : tdOf ty 3 = .int .i64 := by kernel_rfl
theorem td4 : tdOf ty 4 = .bool := by kernel_rfl
theorem ag4 : aggB ty 4 = false := by kernel_rfl
theorem td31 : tdOf ty 31 = .slice 2 1 := by kernel_rfl
theorem td33 : tdOf ty 33 = .struct [(31, 0, 1), (3, 1, 1), (3, 2, 1)] true := by kernel_rfl
def gS : Sig := ⟨[.dat 31, .dat 31], [], ⟨[.dat 4], []⟩, none⟩
def gA : Sig := ⟨[.dat 33, .dat 33], [], ⟨[.dat 4], []⟩, none⟩
def u29 : T := (.br (.not (.cmp .eq (.len (.v 0)) (.len (.v 1)))) (.ret 0 [(.d (.tru false))]) (.loop 1 [(some 4), (some 3)] [((.cmp .lt (.v 3) (.n 0)), false)] [(.d (.tru false)), (.n 0)] (.br (.cmp .lt (.v 3) (.len (.v 0))) (.br (.cmp .lt (.v 3) (.len (.v 1))) (.br (.not (.cmp .eq (.idx (.v 0) (.v 3)) (.idx (.v 1) (.v 3)))) (.out 1 (.ret 0 [(.d (.tru false))])) (.lt none (.add .i64 (.v 3) (.n 1)) (.again 1 [(.v 2), (.v 4)]))) (.fail 145)) (.out 1 (.ret 0 [(.d (.tru true))])))))
def u32 : T := (.br (.cmp .lt (.len (.v 1)) (.len (.v 0))) (.ret 0 [(.d (.tru false))]) (.loop 1 [(some 4), (some 3)] [((.cmp .lt (.v 3) (.n 0)), false)] [(.d (.tru false)), (.n 0)] (.br (.cmp .lt (.v 3) (.len (.v 0))) (.br (.cmp .lt (.v 3) (.len (.v 1))) (.br (.not (.cmp .eq (.idx (.v 0) (.v 3)) (.idx (.v 1) (.v 3)))) (.out 1 (.ret 0 [(.d (.tru false))])) (.lt none (.add .i64 (.v 3) (.n 1)) (.again 1 [(.v 2), (.v 4)]))) (.fail 145)) (.out 1 (.ret 0 [(.d (.tru true))])))))
theorem qu29 : sxFunc (Xl []) 400 29 gS = u29 := by kernel_rfl
theorem qu32 : sxFunc (Xl []) 400 32 gS = u32 := by kernel_rfl
def eqI (x y : Dt) : Bool := x.ints == y.ints
def begI (x y : Dt) : Bool := x.ints.isPrefixOf y.ints
def arg (is : List Dt) (i : Nat) : Dt := is.getD i .nil
def c29 : Ct := (29, 29, gS, sF fun is => [.tru (eqI (arg is 0) (arg is 1))])
def c32 : Ct := (32, 32, gS, sF fun is => [.tru (begI (arg is 0) (arg is 1))])
theorem ints_len {x : Dt} : x.ints.length = x.list.length := by simp [Dt.ints]
theorem take_succ' {l m : List Int} {i : Nat} (h : l.take i = m.take i) (hl : i < l.length) (hm : i < m.length) (he : l.getD i 0 = m.getD i 0) : l.take (i + 1) = m.take (i + 1) := by
  simp only [List.getD_eq_getElem?_getD, List.getElem?_eq_getElem hl, List.getElem?_eq_getElem hm, Option.getD_some] at he
  rw [List.take_succ_eq_append_getElem hl, List.take_succ_eq_append_getElem hm, h, he]
theorem take_ne {l m : List Int} {i : Nat} (he : l.getD i 0 ≠ m.getD i 0) : l.take (i + 1) ≠ m.take (i + 1) := by
  intro h
  apply he
  have := congrArg (fun x => x.getD i 0) h
  simpa [List.getD_eq_getElem?_getD, List.getElem?_take] using this
theorem w29 {F : Nat → List Dt → Post → Prop} (hF : FMono F) {x y : Dt} {Q : Post} (hx : x.isSl) (hy : y.isSl) (lx : x.list.length < 9223372036854775808) (hq : Q 0 [.tru (eqI x y)]) : u29.wp ty F [x, y] Q := by
  unfold u29
  simp only [wp_br, wp_ret, wp_lt, wp_again, wp_out, wp_fail, B.den, Cm.den, A.int, A.den, int_num, List.getD_cons_zero, List.getD_cons_succ, List.map_cons, List.map_nil, Bool.not_eq_true', hx.len, hy.len]
  by_cases hl : x.list.length = y.list.length
  · have hl' : ¬ (((x.list.length : Int) == (y.list.length : Int)) = false) := by simp [hl]
    rw [if_neg hl']
    refine wp_loop_inv hF (fun n s => ∃ (b : Bool) (i : Nat), s = [.tru b, .num i] ∧ i + n = x.list.length ∧ x.ints.take i = y.ints.take i) x.list.length ?_ ?_ ?_
    · exact ⟨false, 0, rfl, by omega, rfl⟩
    · rintro n s ⟨b, i, rfl, _, _⟩
      simp [factsB, B.den, Cm.den, A.int, A.den, Dt.int]
    · rintro n s ⟨b, i, rfl, hi, ht⟩ _
      simp only [wp_br, wp_ret, wp_lt, wp_again, wp_out, wp_fail, B.den, Cm.den, A.int, A.den, int_num, List.cons_append, List.nil_append, List.getD_cons_zero, List.getD_cons_succ, List.map_cons, List.map_nil, hx.len, hy.len, decide_eq_true_eq, Bool.not_eq_true', Int.toNat_natCast, ints_idx hx, ints_idx hy, E.den, tyO, true_implies]
      by_cases hlt : i < x.list.length
      · rw [if_pos (by omega), if_pos (by omega)]
        by_cases he : x.ints.getD i 0 = y.ints.getD i 0
        · rw [if_neg (by simpa using he)]
          simp only [if_true]
          refine ⟨n - 1, by omega, b, i + 1, ?_, by omega, take_succ' ht (by rw [ints_len]; omega) (by rw [ints_len]; omega) he⟩
          rw [add1 hlt lx]
        · rw [if_pos (by simpa using he)]
          refine ⟨by decide, ?_⟩
          rw [if_neg (by decide)]
          have : eqI x y = false := by
            simp only [eqI, beq_eq_false_iff_ne, ne_eq]
            intro h
            exact take_ne he (by rw [h])
          rw [← this]; exact hq
      · rw [if_neg (by omega)]
        refine ⟨by decide, ?_⟩
        rw [if_neg (by decide)]
        have : eqI x y = true := by
          simp only [eqI, beq_iff_eq]
          rw [List.take_of_length_le (by rw [ints_len]; omega), List.take_of_length_le (by rw [ints_len]; omega)] at ht
          exact ht
        rw [← this]; exact hq
  · have hl' : ((x.list.length : Int) == (y.list.length : Int)) = false := by simp; omega
    rw [if_pos hl']
    have : eqI x y = false := by
      simp only [eqI, beq_eq_false_iff_ne, ne_eq]
      intro h
      have := congrArg List.length h
      simp only [ints_len] at this
      exact hl this
    rw [← this]; exact hq
theorem w32 {F : Nat → List Dt → Post → Prop} (hF : FMono F) {x y : Dt} {Q : Post} (hx : x.isSl) (hy : y.isSl) (lx : x.list.length < 9223372036854775808) (hq : Q 0 [.tru (begI x y)]) : u32.wp ty F [x, y] Q := by
  unfold u32
  simp only [wp_br, wp_ret, wp_lt, wp_again, wp_out, wp_fail, B.den, Cm.den, A.int, A.den, int_num, List.getD_cons_zero, List.getD_cons_succ, List.map_cons, List.map_nil, Bool.not_eq_true', hx.len, hy.len]
  by_cases hl : y.list.length < x.list.length
  · rw [if_pos (by simpa using hl)]
    have : begI x y = false := by
      rw [begI, Bool.eq_false_iff]
      intro h
      have := (List.isPrefixOf_iff_prefix.1 h).length_le
      simp only [ints_len] at this
      omega
    rw [← this]; exact hq
  · rw [if_neg (by simpa using hl)]
    refine wp_loop_inv hF (fun n s => ∃ (b : Bool) (i : Nat), s = [.tru b, .num i] ∧ i + n = x.list.length ∧ x.ints.take i = y.ints.take i) x.list.length ?_ ?_ ?_
    · exact ⟨false, 0, rfl, by omega, rfl⟩
    · rintro n s ⟨b, i, rfl, _, _⟩
      simp [factsB, B.den, Cm.den, A.int, A.den, Dt.int]
    · rintro n s ⟨b, i, rfl, hi, ht⟩ _
      simp only [wp_br, wp_ret, wp_lt, wp_again, wp_out, wp_fail, B.den, Cm.den, A.int, A.den, int_num, List.cons_append, List.nil_append, List.getD_cons_zero, List.getD_cons_succ, List.map_cons, List.map_nil, hx.len, hy.len, decide_eq_true_eq, Bool.not_eq_true', Int.toNat_natCast, ints_idx hx, ints_idx hy, E.den, tyO, true_implies, Bool.and_eq_true]
      by_cases hlt : i < x.list.length
      · rw [if_pos (by omega), if_pos (by omega)]
        by_cases he : x.ints.getD i 0 = y.ints.getD i 0
        · rw [if_neg (by simpa using he)]
          simp only [if_true]
          refine ⟨n - 1, by omega, b, i + 1, ?_, by omega, take_succ' ht (by rw [ints_len]; omega) (by rw [ints_len]; omega) he⟩
          rw [add1 hlt lx]
        · rw [if_pos (by simpa using he)]
          refine ⟨by decide, ?_⟩
          rw [if_neg (by decide)]
          have : begI x y = false := by
            rw [begI, Bool.eq_false_iff]
            intro h
            obtain ⟨r, hr⟩ := List.isPrefixOf_iff_prefix.1 h
            refine take_ne he ?_
            rw [← hr, List.take_append_of_le_length (by rw [ints_len]; omega)]
          rw [← this]; exact hq
      · rw [if_neg (by omega)]
        refine ⟨by decide, ?_⟩
        rw [if_neg (by decide)]
        have : begI x y = true := by
          rw [begI, List.isPrefixOf_iff_prefix, List.prefix_iff_eq_take, ints_len]
          have hi' : i = x.list.length := by omega
          rw [← hi', ← ht, List.take_of_length_le (by rw [ints_len]; omega)]
        rw [← this]; exact hq
theorem e29 : Ent X c29 := ent_of' XOk (l := []) rfl ents_nil qu29 sF_mono fun hF is Q h hq => by
  obtain ⟨x, y, rfl, hx, hy⟩ := ty2 h
  exact w29 hF (sl_of td31 hx).1 (sl_of td31 hy).1 (sl_of td31 hx).2.1 hq
theorem e32 : Ent X c32 := ent_of' XOk (l := []) rfl ents_nil qu32 sF_mono fun hF is Q h hq => by
  obtain ⟨x, y, rfl, hx, hy⟩ := ty2 h
  exact w32 hF (sl_of td31 hx).1 (sl_of td31 hy).1 (sl_of td31 hx).2.1 hq
def u11 : T := (.br (.and (.cmp .eq (.fld (.v 0) 1) (.fld (.v 1) 1)) (.cmp .eq (.fld (.v 0) 2) (.fld (.v 1) 2))) (.call 29 [(.fld (.v 0) 0), (.fld (.v 1) 0)] [4] (.br (.and (.not (.and (.and (.cmp .eq (.fld (.v 0) 1) (.fld (.v 1) 1)) (.cmp .eq (.fld (.v 0) 2) (.fld (.v 1) 2))) (.is (.v 2)))) (.cmp .eq (.fld (.v 0) 1) (.n 4))) (.lt none (.cut (.fld (.v 1) 0) (.n 0) (.len (.fld (.v 0) 0))) (.br (.not (.cmp .lt (.len (.fld (.v 1) 0)) (.len (.fld (.v 0) 0)))) (.call 29 [(.fld (.v 0) 0), (.v 3)] [4] (.br (.and (.not (.or (.and (.and (.cmp .eq (.fld (.v 0) 1) (.fld (.v 1) 1)) (.cmp .eq (.fld (.v 0) 2) (.fld (.v 1) 2))) (.is (.v 2))) (.and (.cmp .eq (.fld (.v 0) 1) (.n 4)) (.and (.not (.cmp .lt (.len (.fld (.v 1) 0)) (.len (.fld (.v 0) 0)))) (.is (.v 4)))))) (.cmp .eq (.fld (.v 1) 1) (.n 4))) (.lt none (.cut (.fld (.v 0) 0) (.n 0) (.len (.fld (.v 1) 0))) (.br (.not (.cmp .lt (.len (.fld (.v 0) 0)) (.len (.fld (.v 1) 0)))) (.call 29 [(.fld (.v 1) 0), (.v 5)] [4] (.lt none (.boo (.or (.or (.and (.and (.cmp .eq (.fld (.v 0) 1) (.fld (.v 1) 1)) (.cmp .eq (.fld (.v 0) 2) (.fld (.v 1) 2))) (.is (.v 2))) (.and (.cmp .eq (.fld (.v 0) 1) (.n 4)) (.and (.not (.cmp .lt (.len (.fld (.v 1) 0)) (.len (.fld (.v 0) 0)))) (.is (.v 4))))) (.and (.cmp .eq (.fld (.v 1) 1) (.n 4)) (.and (.not (.cmp .lt (.len (.fld (.v 0) 0)) (.len (.fld (.v 1) 0)))) (.is (.v 6)))))) (.ret 0 [(.v 7)])) [] (.fail 345)) (.lt none (.boo (.or (.and (.and (.cmp .eq (.fld (.v 0) 1) (.fld (.v 1) 1)) (.cmp .eq (.fld (.v 0) 2) (.fld (.v 1) 2))) (.is (.v 2))) (.and (.cmp .eq (.fld (.v 0) 1) (.n 4)) (.and (.not (.cmp .lt (.len (.fld (.v 1) 0)) (.len (.fld (.v 0) 0)))) (.is (.v 4)))))) (.ret 0 [(.v 6)])))) (.br (.not (.or (.and (.and (.cmp .eq (.fld (.v 0) 1) (.fld (.v 1) 1)) (.cmp .eq (.fld (.v 0) 2) (.fld (.v 1) 2))) (.is (.v 2))) (.and (.cmp .eq (.fld (.v 0) 1) (.n 4)) (.and (.not (.cmp .lt (.len (.fld (.v 1) 0)) (.len (.fld (.v 0) 0)))) (.is (.v 4)))))) (.lt none (.boo (.or (.and (.and (.cmp .eq (.fld (.v 0) 1) (.fld (.v 1) 1)) (.cmp .eq (.fld (.v 0) 2) (.fld (.v 1) 2))) (.is (.v 2))) (.and (.cmp .eq (.fld (.v 0) 1) (.n 4)) (.and (.not (.cmp .lt (.len (.fld (.v 1) 0)) (.len (.fld (.v 0) 0)))) (.is (.v 4)))))) (.ret 0 [(.v 5)])) (.ret 0 [(.d (.tru true))]))) [] (.fail 345)) (.br (.cmp .eq (.fld (.v 1) 1) (.n 4)) (.lt none (.cut (.fld (.v 0) 0) (.n 0) (.len (.fld (.v 1) 0))) (.br (.not (.cmp .lt (.len (.fld (.v 0) 0)) (.len (.fld (.v 1) 0)))) (.call 29 [(.fld (.v 1) 0), (.v 4)] [4] (.lt none (.boo (.or (.and (.and (.cmp .eq (.fld (.v 0) 1) (.fld (.v 1) 1)) (.cmp .eq (.fld (.v 0) 2) (.fld (.v 1) 2))) (.is (.v 2))) (.and (.cmp .eq (.fld (.v 1) 1) (.n 4)) (.and (.not (.cmp .lt (.len (.fld (.v 0) 0)) (.len (.fld (.v 1) 0)))) (.is (.v 5)))))) (.ret 0 [(.v 6)])) [] (.fail 345)) (.lt none (.boo (.and (.and (.cmp .eq (.fld (.v 0) 1) (.fld (.v 1) 1)) (.cmp .eq (.fld (.v 0) 2) (.fld (.v 1) 2))) (.is (.v 2)))) (.ret 0 [(.v 5)])))) (.lt none (.boo (.and (.and (.cmp .eq (.fld (.v 0) 1) (.fld (.v 1) 1)) (.cmp .eq (.fld (.v 0) 2) (.fld (.v 1) 2))) (.is (.v 2)))) (.ret 0 [(.v 4)]))))) (.br (.not (.and (.and (.cmp .eq (.fld (.v 0) 1) (.fld (.v 1) 1)) (.cmp .eq (.fld (.v 0) 2) (.fld (.v 1) 2))) (.is (.v 2)))) (.br (.cmp .eq (.fld (.v 1) 1) (.n 4)) (.lt none (.cut (.fld (.v 0) 0) (.n 0) (.len (.fld (.v 1) 0))) (.br (.not (.cmp .lt (.len (.fld (.v 0) 0)) (.len (.fld (.v 1) 0)))) (.call 29 [(.fld (.v 1) 0), (.v 3)] [4] (.lt none (.boo (.or (.and (.and (.cmp .eq (.fld (.v 0) 1) (.fld (.v 1) 1)) (.cmp .eq (.fld (.v 0) 2) (.fld (.v 1) 2))) (.is (.v 2))) (.and (.cmp .eq (.fld (.v 1) 1) (.n 4)) (.and (.not (.cmp .lt (.len (.fld (.v 0) 0)) (.len (.fld (.v 1) 0)))) (.is (.v 4)))))) (.ret 0 [(.v 5)])) [] (.fail 345)) (.lt none (.boo (.and (.and (.cmp .eq (.fld (.v 0) 1) (.fld (.v 1) 1)) (.cmp .eq (.fld (.v 0) 2) (.fld (.v 1) 2))) (.is (.v 2)))) (.ret 0 [(.v 4)])))) (.lt none (.boo (.and (.and (.cmp .eq (.fld (.v 0) 1) (.fld (.v 1) 1)) (.cmp .eq (.fld (.v 0) 2) (.fld (.v 1) 2))) (.is (.v 2)))) (.ret 0 [(.v 3)]))) (.ret 0 [(.d (.tru true))]))) [] (.fail 345)) (.br (.cmp .eq (.fld (.v 0) 1) (.n 4)) (.lt none (.cut (.fld (.v 1) 0) (.n 0) (.len (.fld (.v 0) 0))) (.br (.not (.cmp .lt (.len (.fld (.v 1) 0)) (.len (.fld (.v 0) 0)))) (.call 29 [(.fld (.v 0) 0), (.v 2)] [4] (.br (.and (.not (.and (.cmp .eq (.fld (.v 0) 1) (.n 4)) (.and (.not (.cmp .lt (.len (.fld (.v 1) 0)) (.len (.fld (.v 0) 0)))) (.is (.v 3))))) (.cmp .eq (.fld (.v 1) 1) (.n 4))) (.lt none (.cut (.fld (.v 0) 0) (.n 0) (.len (.fld (.v 1) 0))) (.br (.not (.cmp .lt (.len (.fld (.v 0) 0)) (.len (.fld (.v 1) 0)))) (.call 29 [(.fld (.v 1) 0), (.v 4)] [4] (.lt none (.boo (.or (.and (.cmp .eq (.fld (.v 0) 1) (.n 4)) (.and (.not (.cmp .lt (.len (.fld (.v 1) 0)) (.len (.fld (.v 0) 0)))) (.is (.v 3)))) (.and (.cmp .eq (.fld (.v 1) 1) (.n 4)) (.and (.not (.cmp .lt (.len (.fld (.v 0) 0)) (.len (.fld (.v 1) 0)))) (.is (.v 5)))))) (.ret 0 [(.v 6)])) [] (.fail 345)) (.lt none (.boo (.and (.cmp .eq (.fld (.v 0) 1) (.n 4)) (.and (.not (.cmp .lt (.len (.fld (.v 1) 0)) (.len (.fld (.v 0) 0)))) (.is (.v 3))))) (.ret 0 [(.v 5)])))) (.br (.not (.and (.cmp .eq (.fld (.v 0) 1) (.n 4)) (.and (.not (.cmp .lt (.len (.fld (.v 1) 0)) (.len (.fld (.v 0) 0)))) (.is (.v 3))))) (.lt none (.boo (.and (.cmp .eq (.fld (.v 0) 1) (.n 4)) (.and (.not (.cmp .lt (.len (.fld (.v 1) 0)) (.len (.fld (.v 0) 0)))) (.is (.v 3))))) (.ret 0 [(.v 4)])) (.ret 0 [(.d (.tru true))]))) [] (.fail 345)) (.br (.cmp .eq (.fld (.v 1) 1) (.n 4)) (.lt none (.cut (.fld (.v 0) 0) (.n 0) (.len (.fld (.v 1) 0))) (.br (.not (.cmp .lt (.len (.fld (.v 0) 0)) (.len (.fld (.v 1) 0)))) (.call 29 [(.fld (.v 1) 0), (.v 3)] [4] (.lt none (.boo (.and (.cmp .eq (.fld (.v 1) 1) (.n 4)) (.and (.not (.cmp .lt (.len (.fld (.v 0) 0)) (.len (.fld (.v 1) 0)))) (.is (.v 4))))) (.ret 0 [(.v 5)])) [] (.fail 345)) (.ret 0 [(.d (.tru false))]))) (.ret 0 [(.d (.tru false))])))) (.br (.cmp .eq (.fld (.v 1) 1) (.n 4)) (.lt none (.cut (.fld (.v 0) 0) (.n 0) (.len (.fld (.v 1) 0))) (.br (.not (.cmp .lt (.len (.fld (.v 0) 0)) (.len (.fld (.v 1) 0)))) (.call 29 [(.fld (.v 1) 0), (.v 2)] [4] (.lt none (.boo (.and (.cmp .eq (.fld (.v 1) 1) (.n 4)) (.and (.not (.cmp .lt (.len (.fld (.v 0) 0)) (.len (.fld (.v 1) 0)))) (.is (.v 3))))) (.ret 0 [(.v 4)])) [] (.fail 345)) (.ret 0 [(.d (.tru false))]))) (.ret 0 [(.d (.tru false))]))))
def u31 : T := (.br (.and (.cmp .eq (.fld (.v 0) 1) (.fld (.v 1) 1)) (.cmp .eq (.fld (.v 0) 2) (.fld (.v 1) 2))) (.call 32 [(.fld (.v 0) 0), (.fld (.v 1) 0)] [4] (.br (.and (.and (.cmp .eq (.fld (.v 0) 1) (.fld (.v 1) 1)) (.cmp .eq (.fld (.v 0) 2) (.fld (.v 1) 2))) (.is (.v 2))) (.call 32 [(.fld (.v 1) 0), (.fld (.v 0) 0)] [4] (.lt none (.boo (.and (.and (.and (.cmp .eq (.fld (.v 0) 1) (.fld (.v 1) 1)) (.cmp .eq (.fld (.v 0) 2) (.fld (.v 1) 2))) (.is (.v 2))) (.is (.v 3)))) (.ret 0 [(.v 4)])) [] (.fail 345)) (.ret 0 [(.d (.tru false))])) [] (.fail 345)) (.ret 0 [(.d (.tru false))]))
def u12 : T := (.call 31 [(.v 0), (.v 1)] [4] (.br (.and (.not (.is (.v 2))) (.cmp .eq (.fld (.v 0) 1) (.n 4))) (.call 32 [(.fld (.v 0) 0), (.fld (.v 1) 0)] [4] (.br (.and (.not (.or (.is (.v 2)) (.and (.cmp .eq (.fld (.v 0) 1) (.n 4)) (.is (.v 3))))) (.cmp .eq (.fld (.v 1) 1) (.n 4))) (.call 32 [(.fld (.v 1) 0), (.fld (.v 0) 0)] [4] (.lt none (.boo (.or (.or (.is (.v 2)) (.and (.cmp .eq (.fld (.v 0) 1) (.n 4)) (.is (.v 3)))) (.and (.cmp .eq (.fld (.v 1) 1) (.n 4)) (.is (.v 4))))) (.ret 0 [(.v 5)])) [] (.fail 345)) (.br (.not (.or (.is (.v 2)) (.and (.cmp .eq (.fld (.v 0) 1) (.n 4)) (.is (.v 3))))) (.lt none (.boo (.or (.is (.v 2)) (.and (.cmp .eq (.fld (.v 0) 1) (.n 4)) (.is (.v 3))))) (.ret 0 [(.v 4)])) (.ret 0 [(.d (.tru true))]))) [] (.fail 345)) (.br (.not (.is (.v 2))) (.br (.cmp .eq (.fld (.v 1) 1) (.n 4)) (.call 32 [(.fld (.v 1) 0), (.fld (.v 0) 0)] [4] (.lt none (.boo (.or (.is (.v 2)) (.and (.cmp .eq (.fld (.v 1) 1) (.n 4)) (.is (.v 3))))) (.ret 0 [(.v 4)])) [] (.fail 345)) (.ret 0 [(.v 2)])) (.ret 0 [(.d (.tru true))]))) [] (.fail 345))
def agI (a b : Dt) : Bool :=
  ((a.fld 1).int == (b.fld 1).int && (a.fld 2).int == (b.fld 2).int && eqI (a.fld 0) (b.fld 0)) ||
  ((a.fld 1).int == 4 && (!decide (((b.fld 0).len : Int) < ((a.fld 0).len : Int)) && eqI (a.fld 0) ((b.fld 0).cut 0 (a.fld 0).len))) ||
  ((b.fld 1).int == 4 && (!decide (((a.fld 0).len : Int) < ((b.fld 0).len : Int)) && eqI (b.fld 0) ((a.fld 0).cut 0 (b.fld 0).len)))
def sameI (a b : Dt) : Bool := (a.fld 1).int == (b.fld 1).int && (a.fld 2).int == (b.fld 2).int && begI (a.fld 0) (b.fld 0) && begI (b.fld 0) (a.fld 0)
def c11 : Ct := (11, 11, gA, sF fun is => [.tru (agI (arg is 0) (arg is 1))])
def c31 : Ct := (31, 31, gA, sF fun is => [.tru (sameI (arg is 0) (arg is 1))])
theorem qu11 : sxFunc (Xl [c29]) 400 11 gA = u11 := by kernel_rfl
theorem qu31 : sxFunc (Xl [c32]) 400 31 gA = u31 := by kernel_rfl
theorem w11 {a b : Dt} {Q : Post} (hq : Q 0 [.tru (agI a b)]) : u11.wp ty (fOf [c29]) [a, b] Q := by
  have h29 : fOf [c29] 29 = fun is Q => Q 0 [.tru (eqI (arg is 0) (arg is 1))] := rfl
  unfold u11
  unfold agI at hq
  simp only [wp_br', wp_ret, wp_lt, wp_call, wp_fail, h29, B.den, Cm.den, A.int, A.den, E.den, int_num, bool_tru, arg, tyO, true_implies, List.cons_append, List.nil_append, List.getD_cons_zero, List.getD_cons_succ, List.map_cons, List.map_nil, if_true, Int.toNat_natCast, Int.toNat_zero]
  generalize ((a.fld 1).int == (b.fld 1).int) = p1 at hq ⊢
  generalize ((a.fld 2).int == (b.fld 2).int) = p2 at hq ⊢
  generalize ((a.fld 1).int == 4) = p3 at hq ⊢
  generalize ((b.fld 1).int == 4) = p4 at hq ⊢
  generalize (decide (((b.fld 0).len : Int) < ((a.fld 0).len : Int))) = p5 at hq ⊢
  generalize (decide (((a.fld 0).len : Int) < ((b.fld 0).len : Int))) = p6 at hq ⊢
  generalize eqI (a.fld 0) (b.fld 0) = p7 at hq ⊢
  generalize eqI (a.fld 0) ((b.fld 0).cut 0 (a.fld 0).len) = p8 at hq ⊢
  generalize eqI (b.fld 0) ((a.fld 0).cut 0 (b.fld 0).len) = p9 at hq ⊢
  clear h29
  repeat' (first | apply And.intro | intro _)
  all_goals refine Eq.mpr (congrArg (fun b => Q 0 [Dt.tru b]) ?_) hq
  all_goals clear hq
  all_goals simp_all
theorem w31 {a b : Dt} {Q : Post} (hq : Q 0 [.tru (sameI a b)]) : u31.wp ty (fOf [c32]) [a, b] Q := by
  have h32 : fOf [c32] 32 = fun is Q => Q 0 [.tru (begI (arg is 0) (arg is 1))] := rfl
  unfold u31
  unfold sameI at hq
  simp only [wp_br', wp_ret, wp_lt, wp_call, wp_fail, h32, B.den, Cm.den, A.int, A.den, E.den, int_num, bool_tru, arg, tyO, true_implies, List.cons_append, List.nil_append, List.getD_cons_zero, List.getD_cons_succ, List.map_cons, List.map_nil, if_true, Int.toNat_natCast, Int.toNat_zero]
  generalize ((a.fld 1).int == (b.fld 1).int) = p1 at hq ⊢
  generalize ((a.fld 2).int == (b.fld 2).int) = p2 at hq ⊢
  generalize begI (a.fld 0) (b.fld 0) = p3 at hq ⊢
  generalize begI (b.fld 0) (a.fld 0) = p4 at hq ⊢
  clear h32
  repeat' (first | apply And.intro | intro _)
  all_goals refine Eq.mpr (congrArg (fun b => Q 0 [Dt.tru b]) ?_) hq
  all_goals clear hq
  all_goals simp_all
def agR (a b : Dt) : Bool := sameI a b || ((a.fld 1).int == 4 && begI (a.fld 0) (b.fld 0)) || ((b.fld 1).int == 4 && begI (b.fld 0) (a.fld 0))
def c12 : Ct := (12, 12, gA, sF fun is => [.tru (agR (arg is 0) (arg is 1))])
theorem qu12 : sxFunc (Xl [c31, c32]) 400 12 gA = u12 := by kernel_rfl
theorem w12 {a b : Dt} {Q : Post} (hq : Q 0 [.tru (agR a b)]) : u12.wp ty (fOf [c31, c32]) [a, b] Q := by
  have h32 : fOf [c31, c32] 32 = fun is Q => Q 0 [.tru (begI (arg is 0) (arg is 1))] := rfl
  have h31 : fOf [c31, c32] 31 = fun is Q => Q 0 [.tru (sameI (arg is 0) (arg is 1))] := rfl
  unfold u12
  unfold agR at hq
  simp only [wp_br', wp_ret, wp_lt, wp_call, wp_fail, h32, h31, B.den, Cm.den, A.int, A.den, E.den, int_num, bool_tru, arg, tyO, true_implies, List.cons_append, List.nil_append, List.getD_cons_zero, List.getD_cons_succ, List.map_cons, List.map_nil, if_true, Int.toNat_natCast, Int.toNat_zero]
  generalize ((a.fld 1).int == 4) = p1 at hq ⊢
  generalize ((b.fld 1).int == 4) = p2 at hq ⊢
  generalize begI (a.fld 0) (b.fld 0) = p3 at hq ⊢
  generalize begI (b.fld 0) (a.fld 0) = p4 at hq ⊢
  generalize sameI a b = p5 at hq ⊢
  clear h32 h31
  repeat' (first | apply And.intro | intro _)
  all_goals refine Eq.mpr (congrArg (fun b => Q 0 [Dt.tru b]) ?_) hq
  all_goals clear hq
  all_goals simp_all
theorem e11 : Ent X c11 := ent_of XOk (l := [c29]) rfl (ents_cons e29 ents_nil) qu11 sF_mono fun is Q h hq => by
  obtain ⟨x, y, rfl, hx, hy⟩ := ty2 h
  exact w11 hq
theorem e31 : Ent X c31 := ent_of XOk (l := [c32]) rfl (ents_cons e32 ents_nil) qu31 sF_mono fun is Q h hq => by
  obtain ⟨x, y, rfl, hx, hy⟩ := ty2 h
  exact w31 hq
theorem e12 : Ent X c12 := ent_of XOk (l := [c31, c32]) rfl (ents_cons e31 (ents_cons e32 ents_nil)) qu12 sF_mono fun is Q h hq => by
  obtain ⟨x, y, rfl, hx, hy⟩ := ty2 h
  exact w12 hq
theorem cut_ints {x : Dt} (h : x.isSl) (n : Nat) : (x.cut 0 n).ints = x.ints.take n := by
  rcases h with rfl | ⟨l, rfl⟩
  · simp [Dt.cut, Dt.ints, Dt.list]
  · simp [Dt.cut, Dt.ints, Dt.list]
theorem beg_eq {x y : Dt} (hx : x.isSl) (hy : y.isSl) : (!decide ((y.len : Int) < (x.len : Int)) && eqI x (y.cut 0 x.len)) = begI x y := by
  rw [hx.len, hy.len, eqI, begI, cut_ints hy, Bool.eq_iff_iff]
  simp only [Bool.and_eq_true, Bool.not_eq_true', decide_eq_false_iff_not, beq_iff_eq, List.isPrefixOf_iff_prefix]
  rw [List.prefix_iff_eq_take, ints_len]
  constructor
  · exact fun h => h.2
  · intro h
    refine ⟨?_, h⟩
    have := congrArg List.length h
    simp only [ints_len, List.length_take] at this
    omega
theorem equ_eq {x y : Dt} (hx : x.isSl) (hy : y.isSl) : (((x.len : Int) == (y.len : Int)) && begI x y) = eqI x y := by
  rw [hx.len, hy.len, eqI, begI, Bool.eq_iff_iff]
  simp only [Bool.and_eq_true, beq_iff_eq, List.isPrefixOf_iff_prefix]
  constructor
  · rintro ⟨h1, h2⟩
    exact h2.eq_of_length (by rw [ints_len, ints_len]; omega)
  · intro h
    refine ⟨?_, by rw [h]; exact List.prefix_refl _⟩
    have := congrArg List.length h
    simp only [ints_len] at this
    omega
theorem same_eq (x y : Dt) : (begI x y && begI y x) = eqI x y := by
  rw [eqI, begI, begI, Bool.eq_iff_iff]
  simp only [Bool.and_eq_true, beq_iff_eq, List.isPrefixOf_iff_prefix]
  constructor
  · rintro ⟨h1, h2⟩
    exact h1.eq_of_length (Nat.le_antisymm h1.length_le h2.length_le)
  · intro h
    rw [h]; exact ⟨List.prefix_refl _, List.prefix_refl _⟩
theorem agI_eq {a b : Dt} (ha : (a.fld 0).isSl) (hb : (b.fld 0).isSl) : agI a b = agR a b := by
  unfold agI agR sameI
  rw [beg_eq ha hb, beg_eq hb ha, Bool.and_assoc ((a.fld 1).int == (b.fld 1).int && (a.fld 2).int == (b.fld 2).int), same_eq]
theorem agI_comm {a b : Dt} (ha : (a.fld 0).isSl) (hb : (b.fld 0).isSl) : agI a b = agI b a := by
  unfold agI
  rw [beg_eq ha hb, beg_eq hb ha]
  have h1 : ((b.fld 1).int == (a.fld 1).int) = ((a.fld 1).int == (b.fld 1).int) := by rw [Bool.eq_iff_iff]; simp only [beq_iff_eq]; exact eq_comm
  have h2 : ((b.fld 2).int == (a.fld 2).int) = ((a.fld 2).int == (b.fld 2).int) := by rw [Bool.eq_iff_iff]; simp only [beq_iff_eq]; exact eq_comm
  have h3 : eqI (b.fld 0) (a.fld 0) = eqI (a.fld 0) (b.fld 0) := by simp only [eqI]; rw [Bool.eq_iff_iff]; simp only [beq_iff_eq]; exact eq_comm
  rw [h1, h2, h3, Bool.or_assoc, Bool.or_assoc, Bool.or_comm ((a.fld 1).int == 4 && begI (a.fld 0) (b.fld 0))]
theorem agI_self (a : Dt) : agI a a = true := by
  unfold agI eqI
  simp
end
end Go.SYG

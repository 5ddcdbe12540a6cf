/- Proved: the law cupellaw04.RangesUnary returns true for every kind, range and picked value, and leaves its arguments as they were (the tied card of its row).
   Conditions: the package variables ranges.full and ranges.none hold what the program's text lays (the card ties them); the law and what it calls are executed by the symbolic executor SX of these texts, whose soundness is proved in them. -/
import Derived.Test.YtncaejnkpmmoeaaDoorSxRU
import Derived.Test.YtncaejnkpmmoeaaDoorSxR5
set_option linter.unusedVariables false
set_option linter.unusedSimpArgs false
namespace Go.SXR
open Go Go.SX Go.Proofs Go.RowKit Go.ChangeShapes Go.WideShapes Go.Joins Go.Deep Go.Proofs.YtncaejnkpmmoeaaDoor Go.ChangeAt

theorem br_in {a b x : Int} (h1 : a ≤ x) (h2 : x ≤ b) : brL 2 a b ≤ x % 256 ∧ x % 256 ≤ brH 2 a b ∧ 0 ≤ brL 2 a b ∧ brH 2 a b ≤ 255 ∧ brL 2 a b ≤ brH 2 a b := by
  unfold brL brH fullL fullH
  (repeat' split) <;> omega
theorem sm_law {a b x : Int} (hx : a ≤ b → a ≤ x ∧ x ≤ b) : smE a b = 0 → ((smL a b ≤ x % 256 ∧ x % 256 ≤ smH a b) ∧ 0 ≤ smL a b) ∧ smH a b ≤ 255 := by
  intro h
  have hab : ¬ b < a := by intro hc; unfold smE at h; rw [if_pos hc] at h; cases h
  have := br_in (hx (by omega)).1 (hx (by omega)).2
  unfold smL smH
  rw [if_neg hab, if_neg hab]
  omega
def wOf (op x : Int) : Int := if op = 1 then w64 (-x) else if op = 2 then w64 (1 - x) else w64 (-1 - x)
theorem w64_in (x : Int) : inI (w64 x) := by unfold w64 inI; omega
theorem un1 {op a b x : Int} (hop : op = 1 ∨ op = 3) (ha : inI a) (hb : inI b) (h1 : a ≤ x) (h2 : x ≤ b) (hk : okR 1 a b) : (unL op 1 a b ≤ wOf op x ∧ wOf op x ≤ unH op 1 a b) ∧ inI (unL op 1 a b) ∧ inI (unH op 1 a b) ∧ unL op 1 a b ≤ unH op 1 a b := by
  rcases hop with rfl | rfl
  · have hw := w64_in (-x)
    by_cases hi : inI (-b) ∧ inI (-a)
    · have e : w64 (-x) = -x := w64_id (by unfold inI at *; omega)
      simp [unL, unH, wOf, hk, brL, brH, hi, e]
      omega
    · simp only [unL, unH, wOf, hk, brL, brH, hi]
      simp [fullL, fullH]
      unfold inI at *
      omega
  · have e : w64 (-1 - x) = -1 - x := w64_id (by unfold inI at *; omega)
    simp [unL, unH, wOf, hk, e]
    unfold inI at *
    omega
theorem un2 {op a b x : Int} (hop : op = 1 ∨ op = 3) (h1 : a ≤ x) (h2 : x ≤ b) (hk : okR 2 a b) : (unL op 2 a b ≤ wOf op x % 256 ∧ wOf op x % 256 ≤ unH op 2 a b) ∧ 0 ≤ unL op 2 a b ∧ unH op 2 a b ≤ 255 ∧ unL op 2 a b ≤ unH op 2 a b := by
  have h0 : 0 ≤ a ∧ b ≤ 255 := by unfold okR at hk; omega
  rcases hop with rfl | rfl
  · have e : w64 (-x) = -x := w64_id (by unfold inI; omega)
    have := br_in (a := -b) (b := -a) (x := -x) (by omega) (by omega)
    simp [unL, unH, wOf, hk, e]
    omega
  · have e : w64 (-1 - x) = -1 - x := w64_id (by unfold inI; omega)
    simp [unL, unH, wOf, hk, e]
    omega
theorem un3 {a b x : Int} (h1 : a ≤ x) (h2 : x ≤ b) (hk : okR 3 a b) : (unL 2 3 a b ≤ wOf 2 x ∧ wOf 2 x ≤ unH 2 3 a b) ∧ 0 ≤ unL 2 3 a b ∧ unH 2 3 a b ≤ 1 ∧ unL 2 3 a b ≤ unH 2 3 a b := by
  have h0 : 0 ≤ a ∧ b ≤ 1 := by unfold okR at hk; omega
  have e : w64 (1 - x) = 1 - x := w64_id (by unfold inI; omega)
  simp [unL, unH, wOf, hk, e]
  omega
def unaryLawS : List Int → Option (List Int)
  | [k, a, b, n] => if inI a ∧ inI b ∧ inU n then some [1] else none
  | _ => none
def sg9 : Sig := ⟨[I, (.agg [.int .i64, .int .i64]), U], [L]⟩
def t9x2 : T := (.call 10 [] 1 (.br (.cmp .eq (.v 4) (.n 0)) (.ret [(.n 0)]) (.call 13 [(.v 1), (.v 2), (.v 3)] 1 (.call 26 [(.n 1), (.n 2), (.v 1), (.v 2)] 3 (.br (.not (.cmp .eq (.v 8) (.n 0))) (.call 26 [(.n 2), (.n 2), (.v 1), (.v 2)] 3 (.br (.not (.cmp .eq (.v 11) (.n 0))) (.call 26 [(.n 3), (.n 2), (.v 1), (.v 2)] 3 (.br (.not (.cmp .eq (.v 14) (.n 0))) (.call 29 [(.v 1), (.v 2)] 3 (.lt (.band .i64 (.v 5) (.n 255)) (.lt (.band .i64 (.v 5) (.n 255)) (.lt (.sel (.or (.not (.cmp .eq (.v 17) (.n 0))) (.and (.and (.and (.not (.cmp .lt (.v 18) (.v 15))) (.not (.cmp .lt (.v 16) (.v 19)))) (.not (.cmp .lt (.v 15) (.n 0)))) (.not (.cmp .lt (.n 255) (.v 16))))) (.n 1) (.n 0)) (.ret [(.v 20)]))))) (.lt (.neg .i64 (.v 5)) (.lt (.com .i64 (.v 5)) (.lt (.band .i64 (.v 16) (.n 255)) (.br (.not (.or (.cmp .lt (.v 17) (.v 12)) (.cmp .lt (.v 13) (.v 17)))) (.call 17 [(.n 2), (.v 12), (.v 13)] 1 (.br (.or (.or (.cmp .lt (.v 17) (.v 12)) (.cmp .lt (.v 13) (.v 17))) (.not (.cmp .eq (.v 18) (.n 0)))) (.ret [(.n 0)]) (.call 29 [(.v 1), (.v 2)] 3 (.lt (.band .i64 (.v 5) (.n 255)) (.lt (.band .i64 (.v 5) (.n 255)) (.lt (.sel (.or (.not (.cmp .eq (.v 21) (.n 0))) (.and (.and (.and (.not (.cmp .lt (.v 22) (.v 19))) (.not (.cmp .lt (.v 20) (.v 23)))) (.not (.cmp .lt (.v 19) (.n 0)))) (.not (.cmp .lt (.n 255) (.v 20))))) (.n 1) (.n 0)) (.ret [(.v 24)]))))))) (.ret [(.n 0)]))))))) (.lt (.neg .i64 (.v 5)) (.lt (.sub .i64 (.n 1) (.v 5)) (.lt (.band .i64 (.v 13) (.n 255)) (.br (.not (.or (.cmp .lt (.v 14) (.v 9)) (.cmp .lt (.v 10) (.v 14)))) (.call 17 [(.n 2), (.v 9), (.v 10)] 1 (.br (.or (.or (.cmp .lt (.v 14) (.v 9)) (.cmp .lt (.v 10) (.v 14))) (.not (.cmp .eq (.v 15) (.n 0)))) (.ret [(.n 0)]) (.call 26 [(.n 3), (.n 2), (.v 1), (.v 2)] 3 (.br (.not (.cmp .eq (.v 18) (.n 0))) (.call 29 [(.v 1), (.v 2)] 3 (.lt (.band .i64 (.v 5) (.n 255)) (.lt (.band .i64 (.v 5) (.n 255)) (.lt (.sel (.or (.not (.cmp .eq (.v 21) (.n 0))) (.and (.and (.and (.not (.cmp .lt (.v 22) (.v 19))) (.not (.cmp .lt (.v 20) (.v 23)))) (.not (.cmp .lt (.v 19) (.n 0)))) (.not (.cmp .lt (.n 255) (.v 20))))) (.n 1) (.n 0)) (.ret [(.v 24)]))))) (.lt (.neg .i64 (.v 5)) (.lt (.com .i64 (.v 5)) (.lt (.band .i64 (.v 20) (.n 255)) (.br (.not (.or (.cmp .lt (.v 21) (.v 16)) (.cmp .lt (.v 17) (.v 21)))) (.call 17 [(.n 2), (.v 16), (.v 17)] 1 (.br (.or (.or (.cmp .lt (.v 21) (.v 16)) (.cmp .lt (.v 17) (.v 21))) (.not (.cmp .eq (.v 22) (.n 0)))) (.ret [(.n 0)]) (.call 29 [(.v 1), (.v 2)] 3 (.lt (.band .i64 (.v 5) (.n 255)) (.lt (.band .i64 (.v 5) (.n 255)) (.lt (.sel (.or (.not (.cmp .eq (.v 25) (.n 0))) (.and (.and (.and (.not (.cmp .lt (.v 26) (.v 23))) (.not (.cmp .lt (.v 24) (.v 27)))) (.not (.cmp .lt (.v 23) (.n 0)))) (.not (.cmp .lt (.n 255) (.v 24))))) (.n 1) (.n 0)) (.ret [(.v 28)]))))))) (.ret [(.n 0)]))))))))) (.ret [(.n 0)]))))))) (.lt (.neg .i64 (.v 5)) (.lt (.band .i64 (.v 9) (.n 255)) (.br (.not (.or (.cmp .lt (.v 10) (.v 6)) (.cmp .lt (.v 7) (.v 10)))) (.call 17 [(.n 2), (.v 6), (.v 7)] 1 (.br (.or (.or (.cmp .lt (.v 10) (.v 6)) (.cmp .lt (.v 7) (.v 10))) (.not (.cmp .eq (.v 11) (.n 0)))) (.ret [(.n 0)]) (.call 26 [(.n 2), (.n 2), (.v 1), (.v 2)] 3 (.br (.not (.cmp .eq (.v 14) (.n 0))) (.call 26 [(.n 3), (.n 2), (.v 1), (.v 2)] 3 (.br (.not (.cmp .eq (.v 17) (.n 0))) (.call 29 [(.v 1), (.v 2)] 3 (.lt (.band .i64 (.v 5) (.n 255)) (.lt (.band .i64 (.v 5) (.n 255)) (.lt (.sel (.or (.not (.cmp .eq (.v 20) (.n 0))) (.and (.and (.and (.not (.cmp .lt (.v 21) (.v 18))) (.not (.cmp .lt (.v 19) (.v 22)))) (.not (.cmp .lt (.v 18) (.n 0)))) (.not (.cmp .lt (.n 255) (.v 19))))) (.n 1) (.n 0)) (.ret [(.v 23)]))))) (.lt (.neg .i64 (.v 5)) (.lt (.com .i64 (.v 5)) (.lt (.band .i64 (.v 19) (.n 255)) (.br (.not (.or (.cmp .lt (.v 20) (.v 15)) (.cmp .lt (.v 16) (.v 20)))) (.call 17 [(.n 2), (.v 15), (.v 16)] 1 (.br (.or (.or (.cmp .lt (.v 20) (.v 15)) (.cmp .lt (.v 16) (.v 20))) (.not (.cmp .eq (.v 21) (.n 0)))) (.ret [(.n 0)]) (.call 29 [(.v 1), (.v 2)] 3 (.lt (.band .i64 (.v 5) (.n 255)) (.lt (.band .i64 (.v 5) (.n 255)) (.lt (.sel (.or (.not (.cmp .eq (.v 24) (.n 0))) (.and (.and (.and (.not (.cmp .lt (.v 25) (.v 22))) (.not (.cmp .lt (.v 23) (.v 26)))) (.not (.cmp .lt (.v 22) (.n 0)))) (.not (.cmp .lt (.n 255) (.v 23))))) (.n 1) (.n 0)) (.ret [(.v 27)]))))))) (.ret [(.n 0)]))))))) (.lt (.neg .i64 (.v 5)) (.lt (.sub .i64 (.n 1) (.v 5)) (.lt (.band .i64 (.v 16) (.n 255)) (.br (.not (.or (.cmp .lt (.v 17) (.v 12)) (.cmp .lt (.v 13) (.v 17)))) (.call 17 [(.n 2), (.v 12), (.v 13)] 1 (.br (.or (.or (.cmp .lt (.v 17) (.v 12)) (.cmp .lt (.v 13) (.v 17))) (.not (.cmp .eq (.v 18) (.n 0)))) (.ret [(.n 0)]) (.call 26 [(.n 3), (.n 2), (.v 1), (.v 2)] 3 (.br (.not (.cmp .eq (.v 21) (.n 0))) (.call 29 [(.v 1), (.v 2)] 3 (.lt (.band .i64 (.v 5) (.n 255)) (.lt (.band .i64 (.v 5) (.n 255)) (.lt (.sel (.or (.not (.cmp .eq (.v 24) (.n 0))) (.and (.and (.and (.not (.cmp .lt (.v 25) (.v 22))) (.not (.cmp .lt (.v 23) (.v 26)))) (.not (.cmp .lt (.v 22) (.n 0)))) (.not (.cmp .lt (.n 255) (.v 23))))) (.n 1) (.n 0)) (.ret [(.v 27)]))))) (.lt (.neg .i64 (.v 5)) (.lt (.com .i64 (.v 5)) (.lt (.band .i64 (.v 23) (.n 255)) (.br (.not (.or (.cmp .lt (.v 24) (.v 19)) (.cmp .lt (.v 20) (.v 24)))) (.call 17 [(.n 2), (.v 19), (.v 20)] 1 (.br (.or (.or (.cmp .lt (.v 24) (.v 19)) (.cmp .lt (.v 20) (.v 24))) (.not (.cmp .eq (.v 25) (.n 0)))) (.ret [(.n 0)]) (.call 29 [(.v 1), (.v 2)] 3 (.lt (.band .i64 (.v 5) (.n 255)) (.lt (.band .i64 (.v 5) (.n 255)) (.lt (.sel (.or (.not (.cmp .eq (.v 28) (.n 0))) (.and (.and (.and (.not (.cmp .lt (.v 29) (.v 26))) (.not (.cmp .lt (.v 27) (.v 30)))) (.not (.cmp .lt (.v 26) (.n 0)))) (.not (.cmp .lt (.n 255) (.v 27))))) (.n 1) (.n 0)) (.ret [(.v 31)]))))))) (.ret [(.n 0)]))))))))) (.ret [(.n 0)]))))))))) (.ret [(.n 0)])))))))))
theorem q9x2 : sxRun (Cf [p10, p13, p26, p17, p29] unAll) 200 9 sg9 ((mkS 0 sg9.ins).map (subst [(0, 2)])) [] = t9x2 := by kernel_rfl
def t9y : T := (.call 10 [] 1 (.br (.cmp .eq (.v 4) (.n 0)) (.ret [(.n 0)]) (.call 13 [(.v 1), (.v 2), (.v 3)] 1 (.call 26 [(.n 1), (.v 0), (.v 1), (.v 2)] 3 (.br (.not (.cmp .eq (.v 8) (.n 0))) (.call 26 [(.n 2), (.v 0), (.v 1), (.v 2)] 3 (.br (.not (.cmp .eq (.v 11) (.n 0))) (.call 26 [(.n 3), (.v 0), (.v 1), (.v 2)] 3 (.br (.not (.cmp .eq (.v 14) (.n 0))) (.call 29 [(.v 1), (.v 2)] 3 (.lt (.band .i64 (.v 5) (.n 255)) (.lt (.band .i64 (.v 5) (.n 255)) (.lt (.sel (.or (.not (.cmp .eq (.v 17) (.n 0))) (.and (.and (.and (.not (.cmp .lt (.v 18) (.v 15))) (.not (.cmp .lt (.v 16) (.v 19)))) (.not (.cmp .lt (.v 15) (.n 0)))) (.not (.cmp .lt (.n 255) (.v 16))))) (.n 1) (.n 0)) (.ret [(.v 20)]))))) (.lt (.neg .i64 (.v 5)) (.lt (.com .i64 (.v 5)) (.br (.not (.or (.cmp .lt (.v 16) (.v 12)) (.cmp .lt (.v 13) (.v 16)))) (.call 17 [(.v 0), (.v 12), (.v 13)] 1 (.br (.or (.or (.cmp .lt (.v 16) (.v 12)) (.cmp .lt (.v 13) (.v 16))) (.not (.cmp .eq (.v 17) (.n 0)))) (.ret [(.n 0)]) (.call 29 [(.v 1), (.v 2)] 3 (.lt (.band .i64 (.v 5) (.n 255)) (.lt (.band .i64 (.v 5) (.n 255)) (.lt (.sel (.or (.not (.cmp .eq (.v 20) (.n 0))) (.and (.and (.and (.not (.cmp .lt (.v 21) (.v 18))) (.not (.cmp .lt (.v 19) (.v 22)))) (.not (.cmp .lt (.v 18) (.n 0)))) (.not (.cmp .lt (.n 255) (.v 19))))) (.n 1) (.n 0)) (.ret [(.v 23)]))))))) (.ret [(.n 0)])))))) (.lt (.neg .i64 (.v 5)) (.lt (.sub .i64 (.n 1) (.v 5)) (.br (.not (.or (.cmp .lt (.v 13) (.v 9)) (.cmp .lt (.v 10) (.v 13)))) (.call 17 [(.v 0), (.v 9), (.v 10)] 1 (.br (.or (.or (.cmp .lt (.v 13) (.v 9)) (.cmp .lt (.v 10) (.v 13))) (.not (.cmp .eq (.v 14) (.n 0)))) (.ret [(.n 0)]) (.call 26 [(.n 3), (.v 0), (.v 1), (.v 2)] 3 (.br (.not (.cmp .eq (.v 17) (.n 0))) (.call 29 [(.v 1), (.v 2)] 3 (.lt (.band .i64 (.v 5) (.n 255)) (.lt (.band .i64 (.v 5) (.n 255)) (.lt (.sel (.or (.not (.cmp .eq (.v 20) (.n 0))) (.and (.and (.and (.not (.cmp .lt (.v 21) (.v 18))) (.not (.cmp .lt (.v 19) (.v 22)))) (.not (.cmp .lt (.v 18) (.n 0)))) (.not (.cmp .lt (.n 255) (.v 19))))) (.n 1) (.n 0)) (.ret [(.v 23)]))))) (.lt (.neg .i64 (.v 5)) (.lt (.com .i64 (.v 5)) (.br (.not (.or (.cmp .lt (.v 19) (.v 15)) (.cmp .lt (.v 16) (.v 19)))) (.call 17 [(.v 0), (.v 15), (.v 16)] 1 (.br (.or (.or (.cmp .lt (.v 19) (.v 15)) (.cmp .lt (.v 16) (.v 19))) (.not (.cmp .eq (.v 20) (.n 0)))) (.ret [(.n 0)]) (.call 29 [(.v 1), (.v 2)] 3 (.lt (.band .i64 (.v 5) (.n 255)) (.lt (.band .i64 (.v 5) (.n 255)) (.lt (.sel (.or (.not (.cmp .eq (.v 23) (.n 0))) (.and (.and (.and (.not (.cmp .lt (.v 24) (.v 21))) (.not (.cmp .lt (.v 22) (.v 25)))) (.not (.cmp .lt (.v 21) (.n 0)))) (.not (.cmp .lt (.n 255) (.v 22))))) (.n 1) (.n 0)) (.ret [(.v 26)]))))))) (.ret [(.n 0)])))))))) (.ret [(.n 0)])))))) (.lt (.neg .i64 (.v 5)) (.br (.not (.or (.cmp .lt (.v 9) (.v 6)) (.cmp .lt (.v 7) (.v 9)))) (.call 17 [(.v 0), (.v 6), (.v 7)] 1 (.br (.or (.or (.cmp .lt (.v 9) (.v 6)) (.cmp .lt (.v 7) (.v 9))) (.not (.cmp .eq (.v 10) (.n 0)))) (.ret [(.n 0)]) (.call 26 [(.n 2), (.v 0), (.v 1), (.v 2)] 3 (.br (.not (.cmp .eq (.v 13) (.n 0))) (.call 26 [(.n 3), (.v 0), (.v 1), (.v 2)] 3 (.br (.not (.cmp .eq (.v 16) (.n 0))) (.call 29 [(.v 1), (.v 2)] 3 (.lt (.band .i64 (.v 5) (.n 255)) (.lt (.band .i64 (.v 5) (.n 255)) (.lt (.sel (.or (.not (.cmp .eq (.v 19) (.n 0))) (.and (.and (.and (.not (.cmp .lt (.v 20) (.v 17))) (.not (.cmp .lt (.v 18) (.v 21)))) (.not (.cmp .lt (.v 17) (.n 0)))) (.not (.cmp .lt (.n 255) (.v 18))))) (.n 1) (.n 0)) (.ret [(.v 22)]))))) (.lt (.neg .i64 (.v 5)) (.lt (.com .i64 (.v 5)) (.br (.not (.or (.cmp .lt (.v 18) (.v 14)) (.cmp .lt (.v 15) (.v 18)))) (.call 17 [(.v 0), (.v 14), (.v 15)] 1 (.br (.or (.or (.cmp .lt (.v 18) (.v 14)) (.cmp .lt (.v 15) (.v 18))) (.not (.cmp .eq (.v 19) (.n 0)))) (.ret [(.n 0)]) (.call 29 [(.v 1), (.v 2)] 3 (.lt (.band .i64 (.v 5) (.n 255)) (.lt (.band .i64 (.v 5) (.n 255)) (.lt (.sel (.or (.not (.cmp .eq (.v 22) (.n 0))) (.and (.and (.and (.not (.cmp .lt (.v 23) (.v 20))) (.not (.cmp .lt (.v 21) (.v 24)))) (.not (.cmp .lt (.v 20) (.n 0)))) (.not (.cmp .lt (.n 255) (.v 21))))) (.n 1) (.n 0)) (.ret [(.v 25)]))))))) (.ret [(.n 0)])))))) (.lt (.neg .i64 (.v 5)) (.lt (.sub .i64 (.n 1) (.v 5)) (.br (.not (.or (.cmp .lt (.v 15) (.v 11)) (.cmp .lt (.v 12) (.v 15)))) (.call 17 [(.v 0), (.v 11), (.v 12)] 1 (.br (.or (.or (.cmp .lt (.v 15) (.v 11)) (.cmp .lt (.v 12) (.v 15))) (.not (.cmp .eq (.v 16) (.n 0)))) (.ret [(.n 0)]) (.call 26 [(.n 3), (.v 0), (.v 1), (.v 2)] 3 (.br (.not (.cmp .eq (.v 19) (.n 0))) (.call 29 [(.v 1), (.v 2)] 3 (.lt (.band .i64 (.v 5) (.n 255)) (.lt (.band .i64 (.v 5) (.n 255)) (.lt (.sel (.or (.not (.cmp .eq (.v 22) (.n 0))) (.and (.and (.and (.not (.cmp .lt (.v 23) (.v 20))) (.not (.cmp .lt (.v 21) (.v 24)))) (.not (.cmp .lt (.v 20) (.n 0)))) (.not (.cmp .lt (.n 255) (.v 21))))) (.n 1) (.n 0)) (.ret [(.v 25)]))))) (.lt (.neg .i64 (.v 5)) (.lt (.com .i64 (.v 5)) (.br (.not (.or (.cmp .lt (.v 21) (.v 17)) (.cmp .lt (.v 18) (.v 21)))) (.call 17 [(.v 0), (.v 17), (.v 18)] 1 (.br (.or (.or (.cmp .lt (.v 21) (.v 17)) (.cmp .lt (.v 18) (.v 21))) (.not (.cmp .eq (.v 22) (.n 0)))) (.ret [(.n 0)]) (.call 29 [(.v 1), (.v 2)] 3 (.lt (.band .i64 (.v 5) (.n 255)) (.lt (.band .i64 (.v 5) (.n 255)) (.lt (.sel (.or (.not (.cmp .eq (.v 25) (.n 0))) (.and (.and (.and (.not (.cmp .lt (.v 26) (.v 23))) (.not (.cmp .lt (.v 24) (.v 27)))) (.not (.cmp .lt (.v 23) (.n 0)))) (.not (.cmp .lt (.n 255) (.v 24))))) (.n 1) (.n 0)) (.ret [(.v 28)]))))))) (.ret [(.n 0)])))))))) (.ret [(.n 0)])))))))) (.ret [(.n 0)]))))))))
theorem q9y : sxRun (Cf [p10, p13, p26, p17, p29] unAll) 200 9 sg9 ((mkS 0 sg9.ins).map (subst [])) [((.cmp .eq (.v 0) (.n 2)), false)] = t9y := by kernel_rfl
theorem c9x2 {a b n : Int} {w : World} (ha : inI a) (hb : inI b) (hn : inU n) (hg : Glob w) : CallSem Tryd.prog 9 (vS sg9.ins [2, a, b, n]).toArray w fun v w' => v = tupW (vS sg9.outs [1]) ∧ Below w.heap.size w w' := by
  refine ent_run unAll (l := [p10, p13, p26, p17, p29]) (ents_cons e10 (ents_cons e13 (ents_cons e26 (ents_cons e17 (ents_cons e29 ents_nil))))) (is := [2, a, b, n]) (K := 0) q9x2 rfl rfl (by kernel_rfl) (fun _ h => absurd h List.not_mem_nil) (fun _ h => absurd h List.not_mem_nil) hg ?_
  have g10 : fOf [p10, p13, p26, p17, p29] 10 = shownS := rfl
  have g13 : fOf [p10, p13, p26, p17, p29] 13 = pickS := rfl
  have g26 : fOf [p10, p13, p26, p17, p29] 26 = unaryS := rfl
  have g17 : fOf [p10, p13, p26, p17, p29] 17 = checkS := rfl
  have g29 : fOf [p10, p13, p26, p17, p29] 29 = toSmallS := rfl
  have k1 : pickS [a, b, n] = some [pickV a b n] := if_pos hn.1
  have hx : a ≤ b → a ≤ pickV a b n ∧ pickV a b n ≤ b := fun h => pick_in ha hb h hn.1 hn.2
  have u : ∀ op, unaryS [op, 2, a, b] = some [unL op 2 a b, unH op 2 a b, unE op 2 a b] := fun op => if_pos ⟨ha, hb⟩
  have sm : toSmallS [a, b] = some [smL a b, smH a b, smE a b] := if_pos ⟨ha, hb⟩
  generalize pickV a b n = X at k1 hx
  have fin := sm_law hx
  have c0 : IntKind.i64.signed = true := rfl
  by_cases hk : okR 2 a b
  · obtain ⟨hx1, hx2⟩ := hx hk.2
    obtain ⟨⟨a1, a2⟩, a3, a4, a5⟩ := un2 (op := 1) (.inl rfl) hx1 hx2 hk
    obtain ⟨⟨b1, b2⟩, b3, b4, b5⟩ := un2 (op := 3) (.inr rfl) hx1 hx2 hk
    have s1 : checkS [2, unL 1 2 a b, unH 1 2 a b] = some [0] := by
      have : checkE 2 (unL 1 2 a b) (unH 1 2 a b) = 0 := if_pos (by unfold okR; omega)
      rw [← this]; exact if_pos (by unfold inI; omega)
    have s3 : checkS [2, unL 3 2 a b, unH 3 2 a b] = some [0] := by
      have : checkE 2 (unL 3 2 a b) (unH 3 2 a b) = 0 := if_pos (by unfold okR; omega)
      rw [← this]; exact if_pos (by unfold inI; omega)
    have v1 : unE 1 2 a b = 0 := if_pos ⟨hk, .inr ⟨.inl rfl, .inr rfl⟩⟩
    have v2 : unE 2 2 a b = 2 := by unfold unE; rw [if_neg]; rintro ⟨_, h | h⟩ <;> omega
    have v3 : unE 3 2 a b = 0 := if_pos ⟨hk, .inr ⟨.inr rfl, .inr rfl⟩⟩
    simp only [wOf, if_true] at a1 a2
    rw [wOf, if_neg (by decide), if_neg (by decide)] at b1 b2
    have na1 : ¬ w64 (-X) % 256 < unL 1 2 a b := by omega
    have na2 : ¬ unH 1 2 a b < w64 (-X) % 256 := by omega
    have nb1 : ¬ w64 (-1 - X) % 256 < unL 3 2 a b := by omega
    have nb2 : ¬ unH 3 2 a b < w64 (-1 - X) % 256 := by omega
    simp [t9x2, T.den, B.den, A.den, E.den, Cm.den, g10, g13, g26, g17, g29, shownS, k1, u, sm, v1, v2, v3, s1, s3, wrap64, com64, c0, and255, na1, na2, nb1, nb2]
    intro h; have := fin h; omega
  · have v : ∀ op, unE op 2 a b = 2 := fun op => if_neg (fun h => hk h.1)
    simp [t9x2, T.den, B.den, A.den, E.den, Cm.den, g10, g13, g26, g17, g29, shownS, k1, u, sm, v, and255]
    intro h; have := fin h; omega
theorem c9y {k a b n : Int} {w : World} (k2 : k ≠ 2) (ha : inI a) (hb : inI b) (hn : inU n) (hg : Glob w) : CallSem Tryd.prog 9 (vS sg9.ins [k, a, b, n]).toArray w fun v w' => v = tupW (vS sg9.outs [1]) ∧ Below w.heap.size w w' := by
  refine ent_run unAll (l := [p10, p13, p26, p17, p29]) (ents_cons e10 (ents_cons e13 (ents_cons e26 (ents_cons e17 (ents_cons e29 ents_nil))))) (is := [k, a, b, n]) (K := 0) q9y rfl rfl (by kernel_rfl) (by simp [PcOk, B.den, Cm.den, A.den, k2]) (by simp [B.wf, A.wf, Sh.len, Sh.size, sg9]) hg ?_
  have g10 : fOf [p10, p13, p26, p17, p29] 10 = shownS := rfl
  have g13 : fOf [p10, p13, p26, p17, p29] 13 = pickS := rfl
  have g26 : fOf [p10, p13, p26, p17, p29] 26 = unaryS := rfl
  have g17 : fOf [p10, p13, p26, p17, p29] 17 = checkS := rfl
  have g29 : fOf [p10, p13, p26, p17, p29] 29 = toSmallS := rfl
  have k1 : pickS [a, b, n] = some [pickV a b n] := if_pos hn.1
  have hx : a ≤ b → a ≤ pickV a b n ∧ pickV a b n ≤ b := fun h => pick_in ha hb h hn.1 hn.2
  have u : ∀ op, unaryS [op, k, a, b] = some [unL op k a b, unH op k a b, unE op k a b] := fun op => if_pos ⟨ha, hb⟩
  have sm : toSmallS [a, b] = some [smL a b, smH a b, smE a b] := if_pos ⟨ha, hb⟩
  generalize pickV a b n = X at k1 hx
  have fin := sm_law hx
  have c0 : IntKind.i64.signed = true := rfl
  by_cases hk : okR k a b
  · obtain ⟨hx1, hx2⟩ := hx hk.2
    have hkc : k = 1 ∨ k = 3 := by unfold okR at hk; omega
    rcases hkc with rfl | rfl
    · obtain ⟨⟨a1, a2⟩, a3, a4, a5⟩ := un1 (op := 1) (.inl rfl) ha hb hx1 hx2 hk
      obtain ⟨⟨b1, b2⟩, b3, b4, b5⟩ := un1 (op := 3) (.inr rfl) ha hb hx1 hx2 hk
      have s1 : checkS [1, unL 1 1 a b, unH 1 1 a b] = some [0] := by
        have : checkE 1 (unL 1 1 a b) (unH 1 1 a b) = 0 := if_pos (by unfold okR; omega)
        rw [← this]; exact if_pos ⟨a3, a4⟩
      have s3 : checkS [1, unL 3 1 a b, unH 3 1 a b] = some [0] := by
        have : checkE 1 (unL 3 1 a b) (unH 3 1 a b) = 0 := if_pos (by unfold okR; omega)
        rw [← this]; exact if_pos ⟨b3, b4⟩
      have v1 : unE 1 1 a b = 0 := if_pos ⟨hk, .inr ⟨.inl rfl, .inl rfl⟩⟩
      have v2 : unE 2 1 a b = 2 := by unfold unE; rw [if_neg]; rintro ⟨_, h | h⟩ <;> omega
      have v3 : unE 3 1 a b = 0 := if_pos ⟨hk, .inr ⟨.inr rfl, .inl rfl⟩⟩
      simp only [wOf, if_true] at a1 a2
      rw [wOf, if_neg (by decide), if_neg (by decide)] at b1 b2
      have na1 : ¬ w64 (-X) < unL 1 1 a b := by omega
      have na2 : ¬ unH 1 1 a b < w64 (-X) := by omega
      have nb1 : ¬ w64 (-1 - X) < unL 3 1 a b := by omega
      have nb2 : ¬ unH 3 1 a b < w64 (-1 - X) := by omega
      simp [t9y, T.den, B.den, A.den, E.den, Cm.den, g10, g13, g26, g17, g29, shownS, k1, u, sm, v1, v2, v3, s1, s3, wrap64, com64, c0, and255, na1, na2, nb1, nb2]
      intro h; have := fin h; omega
    · obtain ⟨⟨a1, a2⟩, a3, a4, a5⟩ := un3 hx1 hx2 hk
      have s2 : checkS [3, unL 2 3 a b, unH 2 3 a b] = some [0] := by
        have : checkE 3 (unL 2 3 a b) (unH 2 3 a b) = 0 := if_pos (by unfold okR; omega)
        rw [← this]; exact if_pos (by unfold inI; omega)
      have v1 : unE 1 3 a b = 2 := by unfold unE; rw [if_neg]; rintro ⟨_, h | h⟩ <;> omega
      have v2 : unE 2 3 a b = 0 := if_pos ⟨hk, .inl ⟨rfl, rfl⟩⟩
      have v3 : unE 3 3 a b = 2 := by unfold unE; rw [if_neg]; rintro ⟨_, h | h⟩ <;> omega
      rw [wOf, if_neg (by decide), if_pos rfl] at a1 a2
      have na1 : ¬ w64 (1 - X) < unL 2 3 a b := by omega
      have na2 : ¬ unH 2 3 a b < w64 (1 - X) := by omega
      simp [t9y, T.den, B.den, A.den, E.den, Cm.den, g10, g13, g26, g17, g29, shownS, k1, u, sm, v1, v2, v3, s2, wrap64, com64, c0, and255, na1, na2]
      intro h; have := fin h; omega
  · have v : ∀ op, unE op k a b = 2 := fun op => if_neg (fun h => hk h.1)
    simp [t9y, T.den, B.den, A.den, E.den, Cm.den, g10, g13, g26, g17, g29, shownS, k1, u, sm, v, and255]
    intro h; have := fin h; omega
def p9 : Sp := (9, sg9, unaryLawS)
theorem e9 : Ent p9 := by
  intro args rs w h hl hg
  match args, hl with
  | [k, a, b, n], _ =>
    simp only [p9, unaryLawS] at h
    split at h
    · rename_i hr
      cases h
      by_cases k2 : k = 2
      · subst k2; exact c9x2 hr.1 hr.2.1 hr.2.2 hg
      · exact c9y k2 hr.1 hr.2.1 hr.2.2 hg
    · cases h

set_option maxRecDepth 100000 in
theorem unary_lifted (os : Os) (started : os.Started) (H : Type) (enc : TypeId × Value → H) :
    ReturnsInHanded {} Tryd.checked os 9 .any (fun w args => (Rows.rangesUnarySpec.pre enc Tryd.prog Tryd.f9 [] false w args ∧ laidMetH Tryd.prog laidL w) ∧ sizedMet enc Tryd.prog Tryd.f9 (OpenSpec.ofChange Rows.rangesUnarySpec) false w args)
      (Rows.rangesUnarySpec.post enc Tryd.prog Tryd.f9 false true false false) := by
  refine returnsInHanded_of_change_and (C := Tryd.checked) (X := fun w _ => laidMetH Tryd.prog laidL w) (fun _ _ _ hh h => h.of_heap hh) own started (by kernel_rfl) Tryd.func9
    (ChangeSpec.witness_at (enc := enc) (C := Tryd.checked) (os := os) (X := fun w _ => laidMetH Tryd.prog laidL w) false (laidWorld os) #[.int .i64 0, .agg #[.int .i64 0, .int .i64 0], .int .u64 0] 8 rfl (by kernel_rfl) (by kernel_rfl) (by kernel_rfl) (by kernel_rfl) (by kernel_rfl) (laidWorld_met os _)) ?_
  intro W base args ds gs before hval0 hW _ _ hL _
  have hval : ∀ (j : Nat) t v, Tryd.f9.params[j]? = some t → args[j]? = some v → Value.okWide Tryd.prog W .any base t v := hval0
  have hW' := hW
  obtain ⟨p, q, hA0, hV0, rfl, hfz, hnd⟩ := hW
  have hA : DataW.TrodAll enc Tryd.prog W 0 (fun _ => true) true Tryd.f9.params.toList args.toList ds p := hA0
  have hV : DataW.TrodVars enc Tryd.prog W (fun _ => true) [] gs q := hV0
  rw [Tryd.params9] at hA hval
  obtain ⟨v0, v1, v2, d0, d1, d2, p0, p1, p2, rfl, rfl, rfl, h0, h1, h2⟩ := trodAll_three hA
  obtain ⟨rfl, rfl⟩ := trodVars_none hV
  obtain ⟨k, rfl, rfl, rfl, wk⟩ := open_int Tryd.underlying3 (hval 0 3 v0 rfl rfl) h0
  obtain ⟨a, b, rfl, rfl, rfl, wa, wb⟩ := pair_open Tryd.underlying25 one25 cells25 Tryd.underlying2 Tryd.underlying2 (hval 1 25 v1 rfl rfl) h1
  obtain ⟨n, rfl, rfl, rfl, wn⟩ := open_int Tryd.underlying32 (hval 2 32 v2 rfl rfl) h2
  have hcall := calls_of_sem Tryd.func9 rfl (by kernel_rfl) (e9 [k, a, b, n] [1] W (if_pos ⟨wf64 wa, wf64 wb, wfU wn⟩) rfl (glob_of_laid hL))
  refine Calls.mono hcall fun e W' he => ?_
  cases e with
  | returned v =>
    obtain ⟨rfl, hb⟩ := he
    refine ⟨_, rfl, _, _, _, [], [], [], hW', ?_, ?_, ?_, World.keptBut_mono (fun _ h => h.elim) (keptBut_of_below hb), fun h => by cases h⟩
    · exact trodAll_mk1 (shut_bool Tryd.underlying4 true)
    · exact trodAll_mk3 (shut_int Tryd.underlying3 wk) (shut25 wa wb) (shut_int Tryd.underlying32 wn)
    · rfl
  | panicked _ => exact he.elim
  | outgrown => exact he.elim

theorem unary_holds : Rows.RangesUnarySaid :=
  OpenClaim.holds_of_wide 9 Tryd.f9 rfl rfl rfl rfl rfl rfl rfl ⟨rfl, rfl, rfl, rfl, rfl⟩ rfl rfl rfl rfl rfl (by kernel_rfl) Tryd.func9 (by kernel_rfl)
    (of_decide_eq_true (by kernel_rfl)) (by unfold Func.isWrapper; rw [if_neg (of_decide_eq_false (by kernel_rfl))]; exact ⟨rfl, rfl⟩)
    (fun os started H enc _ => unary_lifted os started H enc)

theorem unary_card : Rows.RangesUnaryCardSaid :=
  Claim7.holds_tied_plain_at .later [] [.data, .data] true (true, "de87536829a3227c3e4862b1786049b911f607e593883a4a1c4be2254a7eb771") false
    unary_holds (fun _ h => by cases h) (by kernel_rfl) (fun _ h => by cases h) rangesUnary_row_tie rfl ⟨rfl, rfl⟩ (by kernel_rfl) rfl
    (fun f fn hf hfn => by
      obtain rfl : f = 9 := Option.some.inj ((show Tryd.prog.funcNamed "cupel/cupellaw04.RangesUnary" = some 9 by kernel_rfl).symm.trans hf) |>.symm
      obtain rfl : fn = Tryd.f9 := (Option.some.inj (Tryd.func9.symm.trans hfn)).symm
      exact ⟨by kernel_rfl, fun j t ht => by
        rw [Tryd.params9] at ht
        rcases j with _ | _ | _ | j
        · simp at ht; subst ht; exact (show Tryd.prog.wantsStandIn 3 = false by kernel_rfl)
        · simp at ht; subst ht; exact (show Tryd.prog.wantsStandIn 25 = false by kernel_rfl)
        · simp at ht; subst ht; exact (show Tryd.prog.wantsStandIn 32 = false by kernel_rfl)
        · simp at ht⟩)
    (by kernel_rfl)
end Go.SXR
namespace Go.Proofs.YtncaejnkpmmoeaaDoor
theorem ranges_unary_card : Rows.RangesUnaryCardSaid := Go.SXR.unary_card
end Go.Proofs.YtncaejnkpmmoeaaDoor
#print axioms Go.Proofs.YtncaejnkpmmoeaaDoor.ranges_unary_card

/- RANGES: the calls that 'shown' makes, and 'shown'. -/
import Derived.Test.YtncaejnkpmmoeaaDoorSxU5
set_option linter.unusedVariables false
set_option linter.unusedSimpArgs false
namespace Go.SXR
open Go Go.SX Go.Proofs Go.RowKit

/-! ### What 'shown' calls -/
def sg15 : Sig := ⟨[I, I, RG, RG], [EFF, I]⟩
def sg11 : Sig := ⟨[I, I, RG, RG, L], [RG, RG, L, I]⟩
def some15 (args : List Int) : Option (List Int) :=
  if args = [4, 1, 1, 3, 10, 20] then some [11, 23, 1, 0, 0, 0] else
  if args = [5, 2, 5, 6, 10, 10] then some [251, 252, 1, 0, 0, 0] else
  if args = [2, 1, -7, 9, -2, 3] then some [-9, 9, 1, 1, 0, 0] else
  if args = [3, 1, -5, 20, 4, 4] then some [-3, 3, 1, 0, 0, 0] else none
def some11 (args : List Int) : Option (List Int) := if args = [13, 1, 0, 10, 5, 5, 1] then some [0, 4, 5, 5, 1, 0] else none
def lits : List Int → List Sh → List SV
  | is, .one (.int k) :: l => .int k (.n (is.getD 0 0)) :: lits (is.drop 1) l
  | is, .one .bool :: l => .bool (.c (!decide (is.getD 0 0 = 0))) :: lits (is.drop 1) l
  | is, .agg [.int k, .int k'] :: l => .agg [.int k (.n (is.getD 0 0)), .int k' (.n (is.getD 1 0))] :: lits (is.drop 2) l
  | _, _ => []

theorem c15a {w : World} (hg : Glob w) : CallSem Tryd.prog 15 (vS sg15.ins [4, 1, 1, 3, 10, 20]).toArray w fun v w' => v = tupW (vS sg15.outs [11, 23, 1, 0, 0, 0]) ∧ Below w.heap.size w w' :=
  ent_run unAll (l := [p88]) (ents_cons e88 ents_nil) (sig := sg15) (fuel := 200) (args := lits [4, 1, 1, 3, 10, 20] sg15.ins) (pc := []) (is := [4, 1, 1, 3, 10, 20]) (rs := [11, 23, 1, 0, 0, 0]) (K := 0) rfl rfl (by kernel_rfl) (by kernel_rfl) (fun _ h => absurd h List.not_mem_nil) (fun _ h => absurd h List.not_mem_nil) hg (by kernel_rfl)

theorem c15b {w : World} (hg : Glob w) : CallSem Tryd.prog 15 (vS sg15.ins [5, 2, 5, 6, 10, 10]).toArray w fun v w' => v = tupW (vS sg15.outs [251, 252, 1, 0, 0, 0]) ∧ Below w.heap.size w w' :=
  ent_run unAll (l := [p88]) (ents_cons e88 ents_nil) (sig := sg15) (fuel := 200) (args := lits [5, 2, 5, 6, 10, 10] sg15.ins) (pc := []) (is := [5, 2, 5, 6, 10, 10]) (rs := [251, 252, 1, 0, 0, 0]) (K := 0) rfl rfl (by kernel_rfl) (by kernel_rfl) (fun _ h => absurd h List.not_mem_nil) (fun _ h => absurd h List.not_mem_nil) hg (by kernel_rfl)

theorem c15c {w : World} (hg : Glob w) : CallSem Tryd.prog 15 (vS sg15.ins [2, 1, -7, 9, -2, 3]).toArray w fun v w' => v = tupW (vS sg15.outs [-9, 9, 1, 1, 0, 0]) ∧ Below w.heap.size w w' :=
  ent_run unAll (l := [p88]) (ents_cons e88 ents_nil) (sig := sg15) (fuel := 200) (args := lits [2, 1, -7, 9, -2, 3] sg15.ins) (pc := []) (is := [2, 1, -7, 9, -2, 3]) (rs := [-9, 9, 1, 1, 0, 0]) (K := 0) rfl rfl (by kernel_rfl) (by kernel_rfl) (fun _ h => absurd h List.not_mem_nil) (fun _ h => absurd h List.not_mem_nil) hg (by kernel_rfl)

theorem c15d {w : World} (hg : Glob w) : CallSem Tryd.prog 15 (vS sg15.ins [3, 1, -5, 20, 4, 4]).toArray w fun v w' => v = tupW (vS sg15.outs [-3, 3, 1, 0, 0, 0]) ∧ Below w.heap.size w w' :=
  ent_run unAll (l := [p88]) (ents_cons e88 ents_nil) (sig := sg15) (fuel := 200) (args := lits [3, 1, -5, 20, 4, 4] sg15.ins) (pc := []) (is := [3, 1, -5, 20, 4, 4]) (rs := [-3, 3, 1, 0, 0, 0]) (K := 0) rfl rfl (by kernel_rfl) (by kernel_rfl) (fun _ h => absurd h List.not_mem_nil) (fun _ h => absurd h List.not_mem_nil) hg (by kernel_rfl)

theorem c11 {w : World} (hg : Glob w) : CallSem Tryd.prog 11 (vS sg11.ins [13, 1, 0, 10, 5, 5, 1]).toArray w fun v w' => v = tupW (vS sg11.outs [0, 4, 5, 5, 1, 0]) ∧ Below w.heap.size w w' :=
  ent_run unAll (l := [p88]) (ents_cons e88 ents_nil) (sig := sg11) (fuel := 200) (args := lits [13, 1, 0, 10, 5, 5, 1] sg11.ins) (pc := []) (is := [13, 1, 0, 10, 5, 5, 1]) (rs := [0, 4, 5, 5, 1, 0]) (K := 0) rfl rfl (by kernel_rfl) (by kernel_rfl) (fun _ h => absurd h List.not_mem_nil) (fun _ h => absurd h List.not_mem_nil) hg (by kernel_rfl)

def p15 : Sp := (15, sg15, some15)
theorem e15 : Ent p15 := by
  intro args rs w h hl hg
  simp only [p15, some15] at h
  split at h
  · rename_i e; subst e; cases h; exact c15a hg
  · split at h
    · rename_i e; subst e; cases h; exact c15b hg
    · split at h
      · rename_i e; subst e; cases h; exact c15c hg
      · split at h
        · rename_i e; subst e; cases h; exact c15d hg
        · cases h
def p11 : Sp := (11, sg11, some11)
theorem e11 : Ent p11 := by
  intro args rs w h hl hg
  simp only [p11, some11] at h
  split at h
  · rename_i e; subst e; cases h; exact c11 hg
  · cases h
def shownS : List Int → Option (List Int)
  | [] => some [1]
  | _ => none

def sg10 : Sig := ⟨[], [L]⟩
def t10 : T := (.call 15 [(.n 4), (.n 1), (.n 1), (.n 3), (.n 10), (.n 20)] 6 (.call 15 [(.n 5), (.n 2), (.n 5), (.n 6), (.n 10), (.n 10)] 6 (.call 15 [(.n 2), (.n 1), (.n (-7)), (.n 9), (.n (-2)), (.n 3)] 6 (.call 15 [(.n 3), (.n 1), (.n (-5)), (.n 20), (.n 4), (.n 4)] 6 (.call 11 [(.n 13), (.n 1), (.n 0), (.n 10), (.n 5), (.n 5), (.n 1)] 6 (.br (.or (.or (.or (.or (.or (.not (.cmp .eq (.v 5) (.n 0))) (.not (.cmp .eq (.v 11) (.n 0)))) (.not (.cmp .eq (.v 17) (.n 0)))) (.not (.cmp .eq (.v 23) (.n 0)))) (.not (.cmp .eq (.v 29) (.n 0)))) (.cmp .eq (.v 28) (.n 0))) (.ret [(.n 0)]) (.lt (.sel (.and (.and (.and (.and (.and (.and (.cmp .eq (.v 0) (.n 11)) (.cmp .eq (.v 1) (.n 23))) (.and (.cmp .eq (.v 6) (.n 251)) (.cmp .eq (.v 7) (.n 252)))) (.and (.and (.cmp .eq (.v 12) (.n (-9))) (.cmp .eq (.v 13) (.n 9))) (.and (.not (.cmp .eq (.v 14) (.n 0))) (.and (.not (.cmp .eq (.v 15) (.n 0))) (.cmp .eq (.v 16) (.n 0)))))) (.and (.cmp .eq (.v 18) (.n (-3))) (.cmp .eq (.v 19) (.n 3)))) (.and (.cmp .eq (.v 24) (.n 0)) (.cmp .eq (.v 25) (.n 4)))) (.and (.cmp .eq (.v 26) (.n 5)) (.cmp .eq (.v 27) (.n 5)))) (.n 1) (.n 0)) (.ret [(.v 30)]))))))))
theorem q10 : sxFunc (Cf [p11, p15] unAll) 200 10 sg10 = t10 := by kernel_rfl
def p10 : Sp := (10, sg10, shownS)
theorem e10 : Ent p10 := ent_of unAll (l := [p11, p15]) (ents_cons e11 (ents_cons e15 ents_nil)) q10 fun args rs h hl => by
  match args, hl with
  | [], _ =>
    simp only [shownS] at h; cases h
    exact ⟨0, by kernel_rfl⟩

end Go.SXR

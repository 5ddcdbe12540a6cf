/- RANGES: what the rows of this seat have in common. -/
import Derived.Test.YtncaejnkpmmoeaaDoorSxR3
import Derived.Test.YtncaejnkpmmoeaaDoorCards
import Derived.Test.YtncaejnkpmmoeaaDoorTie
import Derived.JoinedOf
import Derived.SevenTiedAt
import Derived.Stop.Joined
set_option linter.unusedVariables false
namespace Go.SXR
open Go Go.SX Go.Proofs Go.RowKit Go.ChangeShapes Go.WideShapes Go.Joins Go.Deep Go.Proofs.YtncaejnkpmmoeaaDoor Go.ChangeAt

theorem own : ownKnob Tryd.prog.godebug = none := by kernel_rfl
/-- A world that meets the condition. -/
noncomputable def laidWorld (os : Os) : World :=
  let w0 := World.holding Tryd.prog os ⟨#[], #[], []⟩
  { w0 with heap := (w0.heap.modify 0 fun
      | .cells _ t frozen => .cells #[.int .i64 0, .int .i64 0, .int .i64 (-9223372036854775808), .int .i64 9223372036854775807, .int .i64 0, .int .i64 255, .int .i64 0, .int .i64 1] t frozen
      | o => o).modify 1 fun
      | .cells _ t frozen => .cells #[.int .i64 1, .int .i64 0] t frozen
      | o => o }
abbrev laidL : List (String × DataW Unit) := [("cupel/ranges.full", Rows.laid_cupel_ranges_full), ("cupel/ranges.none", Rows.laid_cupel_ranges_none)]
theorem laidWorld_met (os : Os) (args : Array Value) : laidMetH Tryd.prog laidL ((laidWorld os).forCall (fun _ _ => 0) ⟨#[], args, []⟩).memory :=
  show laidMet Tryd.prog laidL _ from laidMet_of_run' 8 (by kernel_rfl) (by kernel_rfl)
theorem keptBut_of_below {W W' : World} (h : Below W.heap.size W W') : W.keptBut W' (fun _ => False) :=
  World.keptBut_none_iff.2 ⟨h.os, h.output, h.block⟩
theorem shut25 {H : Type} {enc : TypeId × Value → H} {w : World} {base : Nat} {spare : Nat → Bool} {held : Bool} {a b : Int} (w0 : (Lit.int .i64 a).wf = true) (w1 : (Lit.int .i64 b).wf = true) :
    DataW.Trod enc Tryd.prog w base spare held 25 (.agg #[.int .i64 a, .int .i64 b]) (.agg [.lit (.int .i64 a), .lit (.int .i64 b)]) [] :=
  pair_shut Tryd.underlying25 one25 cells25 Tryd.underlying2 Tryd.underlying2 w0 w1
theorem wf64 {a : Int} (h : (Lit.int .i64 a).wf = true) : inI a := by
  simp only [Lit.wf, Bool.and_eq_true, decide_eq_true_eq] at h
  exact ⟨Int.le_trans (by decide) h.1, Int.le_trans h.2 (by decide)⟩
theorem calls_of_sem {P : Program} {f : Nat} {fn : Func} {c : Code} {args : Array Value} {w : World} {next : Value → World → Prop} (hf : P.funcs[f]? = some fn) (hb : fn.body = some c) (hn : (fn.name == "runtime.NumGoroutine") = false) (h : CallSem P f args w next) :
    Calls P f args w fun e w' => match e with
      | .returned v => next v w'
      | _ => False := by
  rcases h with ⟨_, h⟩ | ⟨v, h, _⟩
  · exact h
  · rw [run_callFunc_enter hf hb hn w] at h; cases h

end Go.SXR

/- IRSEM: what the rows of this seat have in common. -/
import Derived.Test.YtdfogmblgephdaaIrA
import Derived.Test.YtdfogmblgephdaaRows
import Derived.JoinedOf
import Derived.ChangeShapes
import Derived.Handed
set_option linter.unusedVariables false
namespace Go.SYI
open Go Go.SY Go.Proofs Go.RowKit Go.ChangeShapes Go.Proofs.Ytdfogmblgephdaa

theorem own : ownKnob Try.prog.godebug = none := by kernel_rfl
theorem gok (fz : Fz) : GOk [] fz := fun g off n l h => by cases h
theorem keptBut_of_belw {W W' : World} (h : Belw (· ∈ ([] : List Nat)) W W') : W.keptBut W' (fun _ => False) :=
  World.keptBut_none_iff.2 ⟨h.os, h.output, fun k hk => h.block k hk (fun h => nomatch h)⟩
theorem calls_of_sem {P : Program} {f : Nat} {fn : Func} {c : Code} {args : Array Value} {w : World} {next nextP : Value → World → Prop} (hf : P.funcs[f]? = some fn) (hb : fn.body = some c) (hn : (fn.name == "runtime.NumGoroutine") = false) (h : CallSem P f args w next nextP) :
    Calls P f args w (RetR next nextP) := by
  rcases h with ⟨_, h⟩ | ⟨v, h, _⟩
  · exact h
  · rw [run_callFunc_enter hf hb hn w] at h; cases h
theorem fz0 (w : World) : FzIn (fun _ => none) w := fun _ _ h => nomatch h
/-- It returns true, and nothing that was there has turned. -/
theorem true_of_aft {t : Nat} (ht : tdOf ty t = .bool) (ha : aggB ty t = false) {nbl : Nat} {β : Bt} {fz : Fz} {w w' : World} {V : Value} {x : Bool} (h : AftR ty ⟨[.dat t], []⟩ nbl β fz [] w w' V [.tru x]) : V = .bool x ∧ Belw (· ∈ ([] : List Nat)) w w' := by
  obtain ⟨fz', β', vs, d1, d2, f1, f2, hd, rfl, r1, r2, _, _, _, _, _, _, _, _, hb⟩ := h
  refine ⟨?_, hb⟩
  simp only [BlR] at r2
  obtain ⟨rfl, rfl⟩ := r2
  simp only [ShRL] at r1
  obtain ⟨V1, vr, cs, e1, e2, g1, g2, rfl, rfl, rfl, hv, hr, rfl, rfl, rfl⟩ := r1
  simp only [ShR] at hr
  obtain ⟨rfl, y, rfl, hrep⟩ := hr
  simp at hd
  subst hd
  simp only [rep] at hrep
  obtain ⟨_, rfl⟩ := hrep
  simp only [Sh.val, ha, Bool.false_eq_true, if_false] at hv
  cases hv
  rfl
theorem int_dat {t : Nat} {k : IntKind} (ht : tdOf ty t = .int k) (ha : aggB ty t = false) {fz : Fz} {w : World} {β : Bt} {a : Int} (hw : k.min ≤ a ∧ a ≤ k.max) : (Sh.dat t).val ty (.int k a) [.int k a] ∧ ShR ty fz w β (.dat t) [.int k a] [.num a] [] := by
  refine ⟨by simp only [Sh.val, ha, Bool.false_eq_true, if_false], ?_⟩
  simp only [ShR]
  exact ⟨trivial, _, rfl, k, ht, rfl, hw⟩
theorem td2 : tdOf ty 2 = .int .i64 := by kernel_rfl
theorem ag2 : aggB ty 2 = false := by kernel_rfl
theorem td3 : tdOf ty 3 = .int .i64 := by kernel_rfl
theorem ag3 : aggB ty 3 = false := by kernel_rfl
theorem td4 : tdOf ty 4 = .bool := by kernel_rfl
theorem ag4 : aggB ty 4 = false := by kernel_rfl
theorem wf64 {a : Int} (h : (Lit.int .i64 a).wf = true) : IntKind.i64.min ≤ a ∧ a ≤ IntKind.i64.max := by
  simp only [Lit.wf, Bool.and_eq_true, decide_eq_true_eq] at h
  exact h

end Go.SYI

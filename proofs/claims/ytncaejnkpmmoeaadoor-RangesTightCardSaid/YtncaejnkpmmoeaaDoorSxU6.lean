/- RANGES: arguments and package variables as they are read: pairs of integers, arrays of such; what the laid variables hold. -/
import Derived.Test.YtncaejnkpmmoeaaDoorSxU5
import Derived.Test.YtncaejnkpmmoeaaDoorRows
import Derived.ProofKit
import Derived.LaidLaws
import Derived.LaidHandle
import Derived.ChangeVars
import Derived.RowKitTokens
import Derived.Lib.SmallJoins
import Derived.Lib.LaidTab
import Derived.Test.YtncaejnkpmmoeaaDoorCards
import Derived.Test.YtncaejnkpmmoeaaDoorTie
import Derived.JoinedOf
import Derived.SevenTiedAt
import Derived.Stop.Joined
set_option linter.unusedVariables false
namespace Go.SXR
open Go Go.SX Go.Proofs Go.RowKit Go.ChangeShapes Go.WideShapes Go.Joins Go.Deep Go.Proofs.YtncaejnkpmmoeaaDoor

section
variable {H : Type} {enc : TypeId × Value → H} {P : Program} {w : World} {base : Nat} {spare : Nat → Bool} {held : Bool}

theorem pair_of_trod {t : TypeId} {f0 f1 : Field} {k0 k1 : IntKind} {fuel : Nat} {c0 c1 : Value} {y : DataW H × List MemPlace} (hs : P.underlying t = some (.struct #[f0, f1])) (hone : oneCellFields P #[f0, f1] = true)
    (h0 : P.underlying f0.type = some (.int k0)) (h1 : P.underlying f1.type = some (.int k1)) (h : DataW.trod enc P w base spare held fuel t [c0, c1] = some y) :
    ∃ a b, c0 = .int k0 a ∧ c1 = .int k1 b ∧ y = (.agg [.lit (.int k0 a), .lit (.int k1 b)], []) ∧ (Lit.int k0 a).wf = true ∧ (Lit.int k1 b).wf = true := by
  obtain ⟨y0, y1, n, hx, _, q0, q1⟩ := trod_struct2 hs h
  obtain ⟨o0, z0⟩ := hone_of hone 0 f0 rfl
  obtain ⟨o1, z1⟩ := hone_of hone 1 f1 rfl
  rw [o0, z0] at q0
  rw [o1, z1] at q1
  obtain ⟨a, ha, hy0, hw0⟩ := DataW.trod_int h0 q0
  obtain ⟨b, hb, hy1, hw1⟩ := DataW.trod_int h1 q1
  simp at ha hb
  refine ⟨a, b, ha, hb, ?_, hw0, hw1⟩
  rw [hx, hy0, hy1]; rfl
theorem pair_open {r : Reach} {b0 : Nat} {t : TypeId} {f0 f1 : Field} {k0 k1 : IntKind} {v : Value} {d : DataW H} {p : List MemPlace} (hs : P.underlying t = some (.struct #[f0, f1])) (hone : oneCellFields P #[f0, f1] = true) (hC : P.cellsOf t = 2)
    (h0 : P.underlying f0.type = some (.int k0)) (h1 : P.underlying f1.type = some (.int k1)) (hv : Value.okWide P w r b0 t v) (h : DataW.Trod enc P w base spare held t v d p) :
    ∃ a b, v = .agg #[.int k0 a, .int k1 b] ∧ d = .agg [.lit (.int k0 a), .lit (.int k1 b)] ∧ p = [] ∧ (Lit.int k0 a).wf = true ∧ (Lit.int k1 b).wf = true := by
  obtain ⟨cs, rfl, hsz⟩ := okWide_struct hs hv
  obtain ⟨c0, c1, rfl⟩ := array2 (hsz.trans hC)
  obtain ⟨fuel, hf⟩ := h
  obtain ⟨a, b, rfl, rfl, hy, w0, w1⟩ := pair_of_trod hs hone h0 h1 (c0 := c0) (c1 := c1) (by simpa [Value.cells] using hf)
  injection hy with e1 e2
  exact ⟨a, b, rfl, e1, e2, w0, w1⟩
theorem pair_shut {t : TypeId} {f0 f1 : Field} {k0 k1 : IntKind} {a b : Int} (hs : P.underlying t = some (.struct #[f0, f1])) (hone : oneCellFields P #[f0, f1] = true) (hC : P.cellsOf t = 2)
    (h0 : P.underlying f0.type = some (.int k0)) (h1 : P.underlying f1.type = some (.int k1)) (w0 : (Lit.int k0 a).wf = true) (w1 : (Lit.int k1 b).wf = true) :
    DataW.Trod enc P w base spare held t (.agg #[.int k0 a, .int k1 b]) (.agg [.lit (.int k0 a), .lit (.int k1 b)]) [] :=
  shut_agg2 (y0 := (.lit (.int k0 a), [])) (y1 := (.lit (.int k1 b), [])) hs hone hC ⟨1, trod_int_mk 0 h0 w0⟩ ⟨1, trod_int_mk 0 h1 w1⟩
theorem trod_arr {t e : TypeId} {n fuel : Nat} {cs : List Value} {x : DataW H × List MemPlace} (ht : P.underlying t = some (.array n e)) (h : DataW.trod enc P w base spare held fuel t cs = some x) :
    ∃ m xs, x = (.agg (xs.map (·.1)), xs.flatMap (·.2)) ∧ cs.length = P.cellsOf t ∧ (List.range n).mapM (fun i => DataW.trod enc P w base spare held m e ((cs.drop (i * P.cellsOf e)).take (P.cellsOf e))) = some xs := by
  cases fuel with
  | zero => simp [DataW.trod] at h
  | succ m =>
    unfold DataW.trod at h
    rw [ht] at h
    split at h <;> simp_all
    obtain ⟨_, a, h1, h2⟩ := h
    exact ⟨m, a, h2.symm, h1⟩
end

/-! ### The variables -/
theorem gFull : Tryd.prog.globalNamed "cupel/ranges.full" = some 0 := by kernel_rfl
theorem gNone : Tryd.prog.globalNamed "cupel/ranges.none" = some 1 := by kernel_rfl
theorem gFullT : (Tryd.prog.globals[0]?).map (·.type) = some 75 := by kernel_rfl
theorem gNoneT : (Tryd.prog.globals[1]?).map (·.type) = some 25 := by kernel_rfl
theorem one25 : oneCellFields Tryd.prog #[{ name := "Low", type := 2, offset := 0, embedded := false, tag := "", pkgPath := "", byteOffset := 0 }, { name := "High", type := 2, offset := 1, embedded := false, tag := "", pkgPath := "", byteOffset := 8 }] = true := by kernel_rfl
theorem cells25 : Tryd.prog.cellsOf 25 = 2 := by kernel_rfl
theorem cells75 : Tryd.prog.cellsOf 75 = 8 := by kernel_rfl
theorem array8 {α : Type} {cs : List α} (h : cs.length = 8) : ∃ a b c d e f g i, cs = [a, b, c, d, e, f, g, i] := by
  match cs, h with
  | [a, b, c, d, e, f, g, i], _ => exact ⟨a, b, c, d, e, f, g, i, rfl⟩
theorem arr_toList {α : Type} {a : Array α} {l : List α} (h : a.toList = l) : a = l.toArray := by rw [← h]
/-- What the laid variables hold. -/
theorem laid_holds {W : World} (h : laidMetH Tryd.prog [("cupel/ranges.full", Rows.laid_cupel_ranges_full), ("cupel/ranges.none", Rows.laid_cupel_ranges_none)] W) :
    W.var? Tryd.prog "cupel/ranges.full" = some #[.int .i64 0, .int .i64 0, .int .i64 (-9223372036854775808), .int .i64 9223372036854775807, .int .i64 0, .int .i64 255, .int .i64 0, .int .i64 1] ∧
    W.var? Tryd.prog "cupel/ranges.none" = some #[.int .i64 1, .int .i64 0] := by
  have h' : laidMet Tryd.prog [("cupel/ranges.full", Rows.laid_cupel_ranges_full), ("cupel/ranges.none", Rows.laid_cupel_ranges_none)] W := h
  obtain ⟨ps, ⟨g, t, cs, fuel, p, q, e1, e2, e3, e4, ⟨g', t', cs', fuel', p', q', f1, f2, f3, f4, _, _⟩, _⟩, _, _⟩ := h'
  rw [gFull] at e1; cases e1
  rw [gFullT] at e2; cases e2
  rw [gNone] at f1; cases f1
  rw [gNoneT] at f2; cases f2
  constructor
  · rw [e3]
    obtain ⟨m, xs, hx, hl, hm⟩ := trod_arr Tryd.underlying75 e4
    rw [cells75] at hl
    obtain ⟨c0, c1, c2, c3, c4, c5, c6, c7, hcs⟩ := array8 hl
    rw [hcs, cells25] at hm
    have at' : ∀ i, i < 4 → ∃ y, xs[i]? = some y ∧ DataW.trod (fun _ => ()) Tryd.prog W 0 (fun _ => true) false m 25 (([c0, c1, c2, c3, c4, c5, c6, c7].drop (i * 2)).take 2) = some y := fun i hi =>
      Lib.mapM_at hm i i (by rw [List.getElem?_range hi])
    have hlen : xs.length = 4 := by rw [Lib.mapM_length hm]; rfl
    obtain ⟨y0, z0, h0⟩ := at' 0 (by decide)
    obtain ⟨y1, z1, h1⟩ := at' 1 (by decide)
    obtain ⟨y2, z2, h2⟩ := at' 2 (by decide)
    obtain ⟨y3, z3, h3⟩ := at' 3 (by decide)
    match xs, hlen with
    | [x0, x1, x2, x3], _ =>
      simp at z0 z1 z2 z3
      subst z0; subst z1; subst z2; subst z3
      obtain ⟨a0, b0, q0, r0, s0, _, _⟩ := pair_of_trod Tryd.underlying25 one25 Tryd.underlying2 Tryd.underlying2 h0
      obtain ⟨a1, b1, q1, r1, s1, _, _⟩ := pair_of_trod Tryd.underlying25 one25 Tryd.underlying2 Tryd.underlying2 h1
      obtain ⟨a2, b2, q2, r2, s2, _, _⟩ := pair_of_trod Tryd.underlying25 one25 Tryd.underlying2 Tryd.underlying2 h2
      obtain ⟨a3, b3, q3, r3, s3, _, _⟩ := pair_of_trod Tryd.underlying25 one25 Tryd.underlying2 Tryd.underlying2 h3
      rw [s0, s1, s2, s3] at hx
      simp [Rows.laid_cupel_ranges_full] at hx
      have hc := arr_toList hcs
      rw [hc, q0, r0, q1, r1, q2, r2, q3, r3]
      obtain ⟨⟨⟨e1, e2⟩, ⟨e3, e4⟩, ⟨e5, e6⟩, ⟨e7, e8⟩⟩, _⟩ := hx
      rw [← e1, ← e2, ← e3, ← e4, ← e5, ← e6, ← e7, ← e8]
  · rw [f3]
    have hl := (trod_struct2 Tryd.underlying25 f4)
    obtain ⟨y0, y1, n, hx, hl, q0, q1⟩ := hl
    rw [cells25] at hl
    match hcs : cs'.toList, hl with
    | [c0, c1], _ =>
      rw [hcs] at f4
      obtain ⟨a0, b0, r0, r1, s0, _, _⟩ := pair_of_trod Tryd.underlying25 one25 Tryd.underlying2 Tryd.underlying2 f4
      have hc := arr_toList hcs
      simp [Rows.laid_cupel_ranges_none] at s0
      obtain ⟨⟨e1, e2⟩, _⟩ := s0
      rw [hc, r0, r1, ← e1, ← e2]
theorem glob_of_laid {W : World} (h : laidMetH Tryd.prog [("cupel/ranges.full", Rows.laid_cupel_ranges_full), ("cupel/ranges.none", Rows.laid_cupel_ranges_none)] W) : Glob W := by
  obtain ⟨h1, h2⟩ := laid_holds h
  have c1 := fun j => World.var?_cell gFull h1 j
  have c2 := fun j => World.var?_cell gNone h2 j
  intro g off n l hl j v hv
  have seg : ∀ (c : List SV) , takeN n (dropN off c) = some l → c[off + j]? = some v := by
    intro c hc
    rw [dropN_eq] at hc
    obtain ⟨_, rfl⟩ := takeN_eq _ _ _ hc
    rw [List.getElem?_take] at hv
    split at hv
    · rwa [List.getElem?_drop] at hv
    · cases hv
  simp only [Cf, GL, rdGl] at hl
  cases h0 : Nat.beq 0 g <;> rw [h0] at hl <;> simp only [cond_true, cond_false] at hl
  · cases h1 : Nat.beq 1 g <;> rw [h1] at hl <;> simp only [cond_true, cond_false] at hl
    · cases hl
    · cases beq_nat h1
      have hs := seg _ hl
      have hc := c2 (off + j)
      rcases hx : off + j with _ | _ | k <;> rw [hx] at hs hc <;> simp at hs hc
      · subst hs; exact ⟨rfl, rfl, hc⟩
      · subst hs; exact ⟨rfl, rfl, hc⟩
  · cases beq_nat h0
    have hs := seg _ hl
    have hc := c1 (off + j)
    rcases hx : off + j with _ | _ | _ | _ | _ | _ | _ | _ | k <;> rw [hx] at hs hc <;> simp at hs hc
    all_goals (subst hs; exact ⟨rfl, rfl, hc⟩)
end Go.SXR
set_option linter.unusedVariables false
namespace Go.SXR
open Go Go.SX Go.Proofs Go.RowKit Go.ChangeShapes Go.WideShapes Go.Joins Go.Deep Go.Proofs.YtncaejnkpmmoeaaDoor Go.ChangeAt

theorem own : ownKnob Tryd.prog.godebug = none := by kernel_rfl
/-- A world that meets the condition. -/
noncomputable def laidWorld (os : Os) : World :=
  let w0 := World.holding Tryd.prog os ⟨#[], #[], []⟩
  { w0 with heap := (w0.heap.modify 0 fun
      | .cells _ t frozen => .cells #[.int .i64 0, .int .i64 0, .int .i64 (-9223372036854775808), .int .i64 9223372036854775807, .int .i64 0, .int .i64 255, .int .i64 0, .int .i64 1] t frozen
      | o => o).modify 1 fun
      | .cells _ t frozen => .cells #[.int .i64 1, .int .i64 0] t frozen
      | o => o }
abbrev laidL : List (String × DataW Unit) := [("cupel/ranges.full", Rows.laid_cupel_ranges_full), ("cupel/ranges.none", Rows.laid_cupel_ranges_none)]
theorem laidWorld_met (os : Os) (args : Array Value) : laidMetH Tryd.prog laidL ((laidWorld os).forCall (fun _ _ => 0) ⟨#[], args, []⟩).memory :=
  show laidMet Tryd.prog laidL _ from laidMet_of_run' 8 (by kernel_rfl) (by kernel_rfl)
theorem keptBut_of_below {W W' : World} (h : Below W.heap.size W W') : W.keptBut W' (fun _ => False) :=
  World.keptBut_none_iff.2 ⟨h.os, h.output, h.block⟩
theorem shut25 {H : Type} {enc : TypeId × Value → H} {w : World} {base : Nat} {spare : Nat → Bool} {held : Bool} {a b : Int} (w0 : (Lit.int .i64 a).wf = true) (w1 : (Lit.int .i64 b).wf = true) :
    DataW.Trod enc Tryd.prog w base spare held 25 (.agg #[.int .i64 a, .int .i64 b]) (.agg [.lit (.int .i64 a), .lit (.int .i64 b)]) [] :=
  pair_shut Tryd.underlying25 one25 cells25 Tryd.underlying2 Tryd.underlying2 w0 w1
theorem wf64 {a : Int} (h : (Lit.int .i64 a).wf = true) : inI a := by
  simp only [Lit.wf, Bool.and_eq_true, decide_eq_true_eq] at h
  exact ⟨Int.le_trans (by decide) h.1, Int.le_trans h.2 (by decide)⟩
theorem calls_of_sem {P : Program} {f : Nat} {fn : Func} {c : Code} {args : Array Value} {w : World} {next : Value → World → Prop} (hf : P.funcs[f]? = some fn) (hb : fn.body = some c) (hn : (fn.name == "runtime.NumGoroutine") = false) (h : CallSem P f args w next) :
    Calls P f args w fun e w' => match e with
      | .returned v => next v w'
      | _ => False := by
  rcases h with ⟨_, h⟩ | ⟨v, h, _⟩
  · exact h
  · rw [run_callFunc_enter hf hb hn w] at h; cases h

end Go.SXR
set_option linter.unusedVariables false
namespace Go.SXR
open Go Go.SX Go.Proofs Go.RowKit Go.ChangeShapes Go.WideShapes Go.Joins Go.Deep Go.Proofs.YtncaejnkpmmoeaaDoor Go.ChangeAt

theorem one23 : oneCellFields Tryd.prog #[{ name := "Op", type := 3, offset := 0, embedded := false, tag := "", pkgPath := "", byteOffset := 0 }, { name := "Kind", type := 3, offset := 1, embedded := false, tag := "", pkgPath := "", byteOffset := 8 }] = true := by kernel_rfl
theorem cells23 : Tryd.prog.cellsOf 23 = 2 := by kernel_rfl
theorem one34 : oneCellFields Tryd.prog #[{ name := "A", type := 32, offset := 0, embedded := false, tag := "", pkgPath := "", byteOffset := 0 }, { name := "B", type := 32, offset := 1, embedded := false, tag := "", pkgPath := "", byteOffset := 8 }] = true := by kernel_rfl
theorem cells34 : Tryd.prog.cellsOf 34 = 2 := by kernel_rfl
theorem cells2 : Tryd.prog.cellsOf 2 = 1 := by kernel_rfl
theorem cells31 : Tryd.prog.cellsOf 31 = 4 := by kernel_rfl
def inU (x : Int) : Prop := 0 ≤ x ∧ x < 18446744073709551616
instance (x : Int) : Decidable (inU x) := by unfold inU; infer_instance
theorem wfU {a : Int} (h : (Lit.int .u64 a).wf = true) : inU a := by
  simp only [Lit.wf, Bool.and_eq_true, decide_eq_true_eq] at h
  have h1 : (0 : Int) ≤ a := Int.le_trans (by decide) h.1
  have h2 : a ≤ 18446744073709551615 := Int.le_trans h.2 (by decide)
  exact ⟨h1, by omega⟩
section
variable {H : Type} {enc : TypeId × Value → H} {w : World} {base : Nat} {spare : Nat → Bool} {held : Bool}
theorem open31 {v : Value} {d : DataW H} {p : List MemPlace} (h : DataW.Trod enc Tryd.prog w base spare held 31 v d p) :
    ∃ a b c e, v = .agg #[.int .i64 a, .int .i64 b, .int .i64 c, .int .i64 e] ∧ d = .agg [.agg [.lit (.int .i64 a), .lit (.int .i64 b)], .agg [.lit (.int .i64 c), .lit (.int .i64 e)]] ∧ p = [] ∧
      (Lit.int .i64 a).wf = true ∧ (Lit.int .i64 b).wf = true ∧ (Lit.int .i64 c).wf = true ∧ (Lit.int .i64 e).wf = true := by
  obtain ⟨fuel, hf⟩ := h
  obtain ⟨m, xs, hx, hl, hm⟩ := trod_arr Tryd.underlying31 hf
  rw [cells31] at hl
  have hv : ∃ cs, v = .agg cs ∧ cs.size = 4 := by
    cases v <;> simp [Value.cells] at hl
    exact ⟨_, rfl, hl⟩
  obtain ⟨cs, rfl, hs⟩ := hv
  obtain ⟨c0, c1, c2, c3, rfl⟩ := array4 hs
  have hlen : xs.length = 2 := by rw [Lib.mapM_length hm]; rfl
  match xs, hlen with
  | [y0, y1], _ =>
    have at' : ∀ i, i < 2 → ∃ y, [y0, y1][i]? = some y ∧ DataW.trod enc Tryd.prog w base spare held m 25 (((Value.agg #[c0, c1, c2, c3]).cells.toList.drop (i * Tryd.prog.cellsOf 25)).take (Tryd.prog.cellsOf 25)) = some y := fun i hi =>
      Lib.mapM_at hm i i (by rw [List.getElem?_range hi])
    obtain ⟨x0, z0, t0⟩ := at' 0 (by decide)
    obtain ⟨x1, z1, t1⟩ := at' 1 (by decide)
    simp at z0 z1
    subst z0; subst z1
    rw [cells25] at t0 t1
    obtain ⟨a, b, e0, e1, s0, w0, w1⟩ := pair_of_trod Tryd.underlying25 one25 Tryd.underlying2 Tryd.underlying2 (c0 := c0) (c1 := c1) (by simpa [Value.cells] using t0)
    obtain ⟨c, e, e2, e3, s1, w2, w3⟩ := pair_of_trod Tryd.underlying25 one25 Tryd.underlying2 Tryd.underlying2 (c0 := c2) (c1 := c3) (by simpa [Value.cells] using t1)
    rw [s0, s1] at hx
    simp at hx
    exact ⟨a, b, c, e, by rw [e0, e1, e2, e3], hx.1, hx.2, w0, w1, w2, w3⟩
theorem shut31 {a b c e : Int} (wa : (Lit.int .i64 a).wf = true) (wb : (Lit.int .i64 b).wf = true) (wc : (Lit.int .i64 c).wf = true) (we : (Lit.int .i64 e).wf = true) :
    DataW.Trod enc Tryd.prog w base spare held 31 (.agg #[.int .i64 a, .int .i64 b, .int .i64 c, .int .i64 e]) (.agg [.agg [.lit (.int .i64 a), .lit (.int .i64 b)], .agg [.lit (.int .i64 c), .lit (.int .i64 e)]]) [] := by
  have pr : ∀ (x y : Int), (Lit.int .i64 x).wf = true → (Lit.int .i64 y).wf = true → DataW.trod enc Tryd.prog w base spare held 2 25 [.int .i64 x, .int .i64 y] = some (.agg [.lit (.int .i64 x), .lit (.int .i64 y)], []) := by
    intro x y wx wy
    exact trod_struct2_mk (n := 1) (cs := [.int .i64 x, .int .i64 y]) (y0 := (.lit (.int .i64 x), [])) (y1 := (.lit (.int .i64 y), [])) Tryd.underlying25 (by rw [cells25]; rfl)
      (by show DataW.trod enc Tryd.prog w base spare held 1 2 (List.take (Tryd.prog.cellsOf 2) (List.drop 0 [.int .i64 x, .int .i64 y])) = _; rw [cells2]; exact trod_int_mk 0 Tryd.underlying2 wx)
      (by show DataW.trod enc Tryd.prog w base spare held 1 2 (List.take (Tryd.prog.cellsOf 2) (List.drop 1 [.int .i64 x, .int .i64 y])) = _; rw [cells2]; exact trod_int_mk 0 Tryd.underlying2 wy)
  refine ⟨3, ?_⟩
  unfold DataW.trod
  rw [Tryd.underlying31]
  have r2 : List.range 2 = [0, 1] := rfl
  simp [Value.cells, cells31, cells25, r2, pr a b wa wb, pr c e wc we]
end
end Go.SXR

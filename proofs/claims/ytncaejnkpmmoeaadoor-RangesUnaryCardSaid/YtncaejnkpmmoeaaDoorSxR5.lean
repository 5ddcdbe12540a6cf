/- RANGES: more arguments: an operator and a kind; two ranges; what is picked. -/
import Derived.Test.YtncaejnkpmmoeaaDoorSxR4
set_option linter.unusedVariables false
namespace Go.SXR
open Go Go.SX Go.Proofs Go.RowKit Go.ChangeShapes Go.WideShapes Go.Joins Go.Deep Go.Proofs.YtncaejnkpmmoeaaDoor Go.ChangeAt

theorem one23 : oneCellFields Tryd.prog #[{ name := "Op", type := 3, offset := 0, embedded := false, tag := "", pkgPath := "", byteOffset := 0 }, { name := "Kind", type := 3, offset := 1, embedded := false, tag := "", pkgPath := "", byteOffset := 8 }] = true := by kernel_rfl
theorem cells23 : Tryd.prog.cellsOf 23 = 2 := by kernel_rfl
theorem one34 : oneCellFields Tryd.prog #[{ name := "A", type := 32, offset := 0, embedded := false, tag := "", pkgPath := "", byteOffset := 0 }, { name := "B", type := 32, offset := 1, embedded := false, tag := "", pkgPath := "", byteOffset := 8 }] = true := by kernel_rfl
theorem cells34 : Tryd.prog.cellsOf 34 = 2 := by kernel_rfl
theorem cells2 : Tryd.prog.cellsOf 2 = 1 := by kernel_rfl
theorem cells31 : Tryd.prog.cellsOf 31 = 4 := by kernel_rfl
def inU (x : Int) : Prop := 0 ≤ x ∧ x < 18446744073709551616
instance (x : Int) : Decidable (inU x) := by unfold inU; infer_instance
theorem wfU {a : Int} (h : (Lit.int .u64 a).wf = true) : inU a := by
  simp only [Lit.wf, Bool.and_eq_true, decide_eq_true_eq] at h
  have h1 : (0 : Int) ≤ a := Int.le_trans (by decide) h.1
  have h2 : a ≤ 18446744073709551615 := Int.le_trans h.2 (by decide)
  exact ⟨h1, by omega⟩
section
variable {H : Type} {enc : TypeId × Value → H} {w : World} {base : Nat} {spare : Nat → Bool} {held : Bool}
theorem open31 {v : Value} {d : DataW H} {p : List MemPlace} (h : DataW.Trod enc Tryd.prog w base spare held 31 v d p) :
    ∃ a b c e, v = .agg #[.int .i64 a, .int .i64 b, .int .i64 c, .int .i64 e] ∧ d = .agg [.agg [.lit (.int .i64 a), .lit (.int .i64 b)], .agg [.lit (.int .i64 c), .lit (.int .i64 e)]] ∧ p = [] ∧
      (Lit.int .i64 a).wf = true ∧ (Lit.int .i64 b).wf = true ∧ (Lit.int .i64 c).wf = true ∧ (Lit.int .i64 e).wf = true := by
  obtain ⟨fuel, hf⟩ := h
  obtain ⟨m, xs, hx, hl, hm⟩ := trod_arr Tryd.underlying31 hf
  rw [cells31] at hl
  have hv : ∃ cs, v = .agg cs ∧ cs.size = 4 := by
    cases v <;> simp [Value.cells] at hl
    exact ⟨_, rfl, hl⟩
  obtain ⟨cs, rfl, hs⟩ := hv
  obtain ⟨c0, c1, c2, c3, rfl⟩ := array4 hs
  have hlen : xs.length = 2 := by rw [Lib.mapM_length hm]; rfl
  match xs, hlen with
  | [y0, y1], _ =>
    have at' : ∀ i, i < 2 → ∃ y, [y0, y1][i]? = some y ∧ DataW.trod enc Tryd.prog w base spare held m 25 (((Value.agg #[c0, c1, c2, c3]).cells.toList.drop (i * Tryd.prog.cellsOf 25)).take (Tryd.prog.cellsOf 25)) = some y := fun i hi =>
      Lib.mapM_at hm i i (by rw [List.getElem?_range hi])
    obtain ⟨x0, z0, t0⟩ := at' 0 (by decide)
    obtain ⟨x1, z1, t1⟩ := at' 1 (by decide)
    simp at z0 z1
    subst z0; subst z1
    rw [cells25] at t0 t1
    obtain ⟨a, b, e0, e1, s0, w0, w1⟩ := pair_of_trod Tryd.underlying25 one25 Tryd.underlying2 Tryd.underlying2 (c0 := c0) (c1 := c1) (by simpa [Value.cells] using t0)
    obtain ⟨c, e, e2, e3, s1, w2, w3⟩ := pair_of_trod Tryd.underlying25 one25 Tryd.underlying2 Tryd.underlying2 (c0 := c2) (c1 := c3) (by simpa [Value.cells] using t1)
    rw [s0, s1] at hx
    simp at hx
    exact ⟨a, b, c, e, by rw [e0, e1, e2, e3], hx.1, hx.2, w0, w1, w2, w3⟩
theorem shut31 {a b c e : Int} (wa : (Lit.int .i64 a).wf = true) (wb : (Lit.int .i64 b).wf = true) (wc : (Lit.int .i64 c).wf = true) (we : (Lit.int .i64 e).wf = true) :
    DataW.Trod enc Tryd.prog w base spare held 31 (.agg #[.int .i64 a, .int .i64 b, .int .i64 c, .int .i64 e]) (.agg [.agg [.lit (.int .i64 a), .lit (.int .i64 b)], .agg [.lit (.int .i64 c), .lit (.int .i64 e)]]) [] := by
  have pr : ∀ (x y : Int), (Lit.int .i64 x).wf = true → (Lit.int .i64 y).wf = true → DataW.trod enc Tryd.prog w base spare held 2 25 [.int .i64 x, .int .i64 y] = some (.agg [.lit (.int .i64 x), .lit (.int .i64 y)], []) := by
    intro x y wx wy
    exact trod_struct2_mk (n := 1) (cs := [.int .i64 x, .int .i64 y]) (y0 := (.lit (.int .i64 x), [])) (y1 := (.lit (.int .i64 y), [])) Tryd.underlying25 (by rw [cells25]; rfl)
      (by show DataW.trod enc Tryd.prog w base spare held 1 2 (List.take (Tryd.prog.cellsOf 2) (List.drop 0 [.int .i64 x, .int .i64 y])) = _; rw [cells2]; exact trod_int_mk 0 Tryd.underlying2 wx)
      (by show DataW.trod enc Tryd.prog w base spare held 1 2 (List.take (Tryd.prog.cellsOf 2) (List.drop 1 [.int .i64 x, .int .i64 y])) = _; rw [cells2]; exact trod_int_mk 0 Tryd.underlying2 wy)
  refine ⟨3, ?_⟩
  unfold DataW.trod
  rw [Tryd.underlying31]
  have r2 : List.range 2 = [0, 1] := rfl
  simp [Value.cells, cells31, cells25, r2, pr a b wa wb, pr c e wc we]
end
end Go.SXR

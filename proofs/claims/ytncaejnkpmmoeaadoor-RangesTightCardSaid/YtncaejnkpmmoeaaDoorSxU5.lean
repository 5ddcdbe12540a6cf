/- RANGES: the table of types, the constants of package variables, Add64. -/
import Derived.Test.YtncaejnkpmmoeaaDoorSxS17
import Derived.Test.YtncaejnkpmmoeaaDoorProg
import Derived.Test.YtncaejnkpmmoeaaDoorChecked
import Derived.Laws.Externs
set_option linter.unusedVariables false
namespace Go.SXR
open Go Go.SX Go.Proofs Go.RowKit

abbrev i64 : S1 := .int .i64
abbrev u64 : S1 := .int .u64
abbrev I : Sh := .one (.int .i64)
abbrev U : Sh := .one (.int .u64)
abbrev L : Sh := .one .bool
abbrev RG : Sh := .agg [.int .i64, .int .i64]
abbrev EFF : Sh := .agg [.int .i64, .int .i64, .bool, .bool, .bool]
abbrev WD : Sh := .agg [.int .i64, .int .u64]
def keys : List Nat := [1, 2, 3, 4, 5, 6, 7, 8, 9, 10, 11, 12, 13, 14, 15, 16, 17, 18, 19, 20, 21, 22, 23, 24, 25, 26, 27, 29, 30, 31, 32, 33, 34, 35, 36, 37, 38, 39, 41, 42, 43, 44, 45, 46, 47, 49, 50, 51, 53, 54, 55, 56, 57, 58, 59, 61, 62, 64, 65, 66, 68, 69, 70, 71, 72, 73, 74, 75, 76, 77, 78, 79, 80, 81, 82, 83, 84, 85, 86, 87, 88, 89, 90, 91, 92, 93, 94, 95, 96, 97, 98, 99, 101, 102, 103, 104, 105, 107, 108, 109, 110, 111, 112, 113, 115, 116, 117, 118, 119, 120, 121, 122, 123, 124, 125, 126, 127, 128, 129, 130, 131, 132, 133, 134, 135, 136, 137, 138, 139, 140]
def ty : Ty := (.n (.n (.n (.n (.n (.n (.n (.n .e (some ⟨(.struct [(17, 0, 1), (17, 1, 1), (17, 2, 1), (9, 3, 1)] false), 4, 40, some [.nilp, .nilp, .nilp, (.str [])]⟩) .e) none .e) (some ⟨(.arr 2 25 2), 4, 32, some [(.int .i64 (.n 0)), (.int .i64 (.n 0)), (.int .i64 (.n 0)), (.int .i64 (.n 0))]⟩) (.n .e (some ⟨.func, 1, 8, some [.nilfn]⟩) .e)) (some ⟨(.ptr 127), 1, 8, some [.nilp]⟩) (.n (.n .e (some ⟨(.struct [(2, 0, 1), (32, 1, 1)] true), 2, 16, some [(.int .i64 (.n 0)), (.int .u64 (.n 0))]⟩) .e) (some ⟨.func, 1, 8, some [.nilfn]⟩) (.n .e (some ⟨.func, 1, 8, some [.nilfn]⟩) .e))) (some ⟨(.struct [(2, 0, 1), (3, 1, 1), (4, 2, 1), (6, 3, 1)] true), 4, 24, some [(.int .i64 (.n 0)), (.int .i64 (.n 0)), (.bool (.c false)), (.int .u8 (.n 0))]⟩) (.n (.n (.n (.n .e (some ⟨.func, 1, 8, some [.nilfn]⟩) .e) (some ⟨.func, 1, 8, some [.nilfn]⟩) .e) (some ⟨(.struct [(25, 0, 2), (4, 2, 1), (4, 3, 1), (4, 4, 1)] true), 5, 24, some [(.int .i64 (.n 0)), (.int .i64 (.n 0)), (.bool (.c false)), (.bool (.c false)), (.bool (.c false))]⟩) (.n .e (some ⟨.func, 1, 8, some [.nilfn]⟩) .e)) (some ⟨(.struct [(3, 0, 1), (3, 1, 1)] true), 2, 16, some [(.int .i64 (.n 0)), (.int .i64 (.n 0))]⟩) (.n (.n .e (some ⟨.func, 1, 8, some [.nilfn]⟩) .e) (some ⟨.func, 1, 8, some [.nilfn]⟩) (.n .e (some ⟨.func, 1, 8, some [.nilfn]⟩) .e)))) (some ⟨(.int .i64), 1, 8, some [(.int .i64 (.n 0))]⟩) (.n (.n (.n (.n (.n .e (some ⟨.func, 1, 8, some [.nilfn]⟩) .e) none .e) (some ⟨.func, 1, 8, some [.nilfn]⟩) (.n .e (some ⟨.func, 1, 8, some [.nilfn]⟩) .e)) (some ⟨(.struct [(17, 0, 1)] false), 1, 8, some [.nilp]⟩) (.n (.n .e (some ⟨(.struct [(2, 0, 1), (2, 1, 1), (4, 2, 1)] true), 3, 24, some [(.int .i64 (.n 0)), (.int .i64 (.n 0)), (.bool (.c false))]⟩) .e) (some ⟨.func, 1, 8, some [.nilfn]⟩) (.n .e (some ⟨.func, 1, 8, some [.nilfn]⟩) .e))) (some ⟨.str, 1, 16, some [(.str [])]⟩) (.n (.n (.n (.n .e (some ⟨(.struct [(12, 0, 1), (12, 1, 1), (132, 2, 1), (133, 3, 1), (5, 4, 1), (5, 5, 1), (134, 6, 1), (135, 7, 1), (136, 8, 1), (137, 9, 1), (138, 10, 1)] false), 11, 48, some [(.int .u64 (.n 0)), (.int .u64 (.n 0)), (.int .u32 (.n 0)), (.int .u8 (.n 0)), (.int .u8 (.n 0)), (.int .u8 (.n 0)), (.int .u8 (.n 0)), .nilfn, .nilp, (.int .i32 (.n 0)), (.int .i32 (.n 0))]⟩) .e) (some ⟨(.arr 4 25 2), 8, 64, some [(.int .i64 (.n 0)), (.int .i64 (.n 0)), (.int .i64 (.n 0)), (.int .i64 (.n 0)), (.int .i64 (.n 0)), (.int .i64 (.n 0)), (.int .i64 (.n 0)), (.int .i64 (.n 0))]⟩) .e) (some ⟨(.struct [(2, 0, 1), (4, 1, 1), (4, 2, 1)] true), 3, 16, some [(.int .i64 (.n 0)), (.bool (.c false)), (.bool (.c false))]⟩) (.n .e (some ⟨.func, 1, 8, some [.nilfn]⟩) .e)) (some ⟨(.int .i64), 1, 8, some [(.int .i64 (.n 0))]⟩) (.n (.n .e (some ⟨.func, 1, 8, some [.nilfn]⟩) .e) (some ⟨.func, 1, 8, some [.nilfn]⟩) (.n .e (some ⟨.func, 1, 8, some [.nilfn]⟩) .e))))) (some ⟨.func, 1, 8, some [.nilfn]⟩) (.n (.n (.n (.n (.n (.n .e (some ⟨(.struct [(128, 0, 0)] false), 0, 0, some []⟩) .e) (some ⟨.func, 1, 8, some [.nilfn]⟩) .e) (some ⟨(.struct [(32, 0, 1), (32, 1, 1)] true), 2, 16, some [(.int .u64 (.n 0)), (.int .u64 (.n 0))]⟩) (.n .e (some ⟨.func, 1, 8, some [.nilfn]⟩) .e)) (some ⟨(.ptr 140), 1, 8, some [.nilp]⟩) (.n (.n .e (some ⟨.func, 1, 8, some [.nilfn]⟩) .e) (some ⟨.func, 1, 8, some [.nilfn]⟩) (.n .e (some ⟨.func, 1, 8, some [.nilfn]⟩) .e))) (some ⟨.str, 1, 16, some [(.str [])]⟩) (.n (.n (.n (.n .e (some ⟨(.int .i32), 1, 4, some [(.int .i32 (.n 0))]⟩) .e) (some ⟨.func, 1, 8, some [.nilfn]⟩) .e) (some ⟨.func, 1, 8, some [.nilfn]⟩) (.n .e (some ⟨.func, 1, 8, some [.nilfn]⟩) .e)) (some ⟨(.struct [(2, 0, 1), (2, 1, 1)] true), 2, 16, some [(.int .i64 (.n 0)), (.int .i64 (.n 0))]⟩) (.n (.n .e (some ⟨(.slice 25 2), 1, 24, some [.nilsl]⟩) .e) (some ⟨(.arr 3 3 1), 3, 24, some [(.int .i64 (.n 0)), (.int .i64 (.n 0)), (.int .i64 (.n 0))]⟩) (.n .e (some ⟨.func, 1, 8, some [.nilfn]⟩) .e)))) (some ⟨(.int .u8), 1, 1, some [(.int .u8 (.n 0))]⟩) (.n (.n (.n (.n (.n .e (some ⟨(.int .u8), 1, 1, some [(.int .u8 (.n 0))]⟩) .e) (some ⟨.func, 1, 8, some [.nilfn]⟩) .e) (some ⟨.func, 1, 8, some [.nilfn]⟩) (.n .e (some ⟨.func, 1, 8, some [.nilfn]⟩) .e)) (some ⟨(.int .i32), 1, 4, some [(.int .i32 (.n 0))]⟩) (.n (.n .e (some ⟨.func, 1, 8, some [.nilfn]⟩) .e) (some ⟨.func, 1, 8, some [.nilfn]⟩) (.n .e (some ⟨.func, 1, 8, some [.nilfn]⟩) .e))) (some ⟨(.struct [(9, 0, 1), (12, 1, 1)] false), 2, 24, some [(.str []), (.int .u64 (.n 0))]⟩) (.n (.n (.n .e (some ⟨.func, 1, 8, some [.nilfn]⟩) .e) (some ⟨.func, 1, 8, some [.nilfn]⟩) (.n .e (some ⟨.func, 1, 8, some [.nilfn]⟩) .e)) (some ⟨.func, 1, 8, some [.nilfn]⟩) (.n (.n .e (some ⟨.func, 1, 8, some [.nilfn]⟩) .e) (some ⟨.func, 1, 8, some [.nilfn]⟩) (.n .e (some ⟨.func, 1, 8, some [.nilfn]⟩) .e)))))) none (.n (.n (.n (.n (.n (.n (.n .e (some ⟨(.arr 0 16 1), 0, 0, some []⟩) .e) (some ⟨.func, 1, 8, some [.nilfn]⟩) .e) (some ⟨(.int .u64), 1, 8, some [(.int .u64 (.n 0))]⟩) (.n .e (some ⟨(.slice 79 2), 1, 24, some [.nilsl]⟩) .e)) (some ⟨(.ptr 130), 1, 8, some [.nilp]⟩) (.n (.n .e (some ⟨.func, 1, 8, some [.nilfn]⟩) .e) none (.n .e (some ⟨.func, 1, 8, some [.nilfn]⟩) .e))) (some ⟨(.struct [(2, 0, 1), (3, 1, 1), (4, 2, 1), (6, 3, 1)] true), 4, 24, some [(.int .i64 (.n 0)), (.int .i64 (.n 0)), (.bool (.c false)), (.int .u8 (.n 0))]⟩) (.n (.n (.n (.n .e (some ⟨(.ptr 5), 1, 8, some [.nilp]⟩) .e) (some ⟨(.int .u64), 1, 8, some [(.int .u64 (.n 0))]⟩) .e) none (.n .e (some ⟨.func, 1, 8, some [.nilfn]⟩) .e)) (some ⟨(.struct [(2, 0, 1), (2, 1, 1)] true), 2, 16, some [(.int .i64 (.n 0)), (.int .i64 (.n 0))]⟩) (.n (.n .e (some ⟨.func, 1, 8, some [.nilfn]⟩) .e) (some ⟨.func, 1, 8, some [.nilfn]⟩) (.n .e (some ⟨(.slice 32 1), 1, 24, some [.nilsl]⟩) .e)))) (some ⟨.bool, 1, 1, some [(.bool (.c false))]⟩) (.n (.n (.n (.n (.n .e (some ⟨(.int .u32), 1, 4, some [(.int .u32 (.n 0))]⟩) .e) (some ⟨.func, 1, 8, some [.nilfn]⟩) .e) (some ⟨.func, 1, 8, some [.nilfn]⟩) .e) (some ⟨.iface, 1, 16, some [.niliface]⟩) (.n (.n .e (some ⟨(.struct [(2, 0, 1), (2, 1, 1), (4, 2, 1)] true), 3, 24, some [(.int .i64 (.n 0)), (.int .i64 (.n 0)), (.bool (.c false))]⟩) .e) none (.n .e (some ⟨.func, 1, 8, some [.nilfn]⟩) .e))) (some ⟨(.int .u64), 1, 8, some [(.int .u64 (.n 0))]⟩) (.n (.n (.n (.n .e (some ⟨(.struct [(12, 0, 1), (12, 1, 1), (132, 2, 1), (133, 3, 1), (5, 4, 1), (5, 5, 1), (134, 6, 1), (135, 7, 1), (136, 8, 1), (137, 9, 1), (138, 10, 1)] false), 11, 48, some [(.int .u64 (.n 0)), (.int .u64 (.n 0)), (.int .u32 (.n 0)), (.int .u8 (.n 0)), (.int .u8 (.n 0)), (.int .u8 (.n 0)), (.int .u8 (.n 0)), .nilfn, .nilp, (.int .i32 (.n 0)), (.int .i32 (.n 0))]⟩) .e) (some ⟨.func, 1, 8, some [.nilfn]⟩) .e) (some ⟨(.struct [(2, 0, 1), (4, 1, 1), (4, 2, 1)] true), 3, 16, some [(.int .i64 (.n 0)), (.bool (.c false)), (.bool (.c false))]⟩) (.n .e (some ⟨.func, 1, 8, some [.nilfn]⟩) .e)) none (.n (.n .e (some ⟨.func, 1, 8, some [.nilfn]⟩) .e) none (.n .e (some ⟨.func, 1, 8, some [.nilfn]⟩) .e))))) (some ⟨(.int .i64), 1, 8, some [(.int .i64 (.n 0))]⟩) (.n (.n (.n (.n (.n (.n .e (some ⟨(.struct [(128, 0, 0)] false), 0, 0, some []⟩) .e) (some ⟨.func, 1, 8, some [.nilfn]⟩) .e) (some ⟨(.struct [(32, 0, 1), (32, 1, 1)] true), 2, 16, some [(.int .u64 (.n 0)), (.int .u64 (.n 0))]⟩) (.n .e (some ⟨.func, 1, 8, some [.nilfn]⟩) .e)) (some ⟨(.struct [(17, 0, 1)] false), 1, 8, some [.nilp]⟩) (.n (.n .e (some ⟨.func, 1, 8, some [.nilfn]⟩) .e) (some ⟨.func, 1, 8, some [.nilfn]⟩) .e)) (some ⟨.str, 1, 16, some [(.str [])]⟩) (.n (.n (.n (.n .e (some ⟨(.int .i32), 1, 4, some [(.int .i32 (.n 0))]⟩) .e) (some ⟨.func, 1, 8, some [.nilfn]⟩) .e) (some ⟨(.arr 2 2 1), 2, 16, some [(.int .i64 (.n 0)), (.int .i64 (.n 0))]⟩) .e) (some ⟨.func, 1, 8, some [.nilfn]⟩) (.n (.n .e (some ⟨(.arr 6 3 1), 6, 48, some [(.int .i64 (.n 0)), (.int .i64 (.n 0)), (.int .i64 (.n 0)), (.int .i64 (.n 0)), (.int .i64 (.n 0)), (.int .i64 (.n 0))]⟩) .e) (some ⟨.func, 1, 8, some [.nilfn]⟩) (.n .e (some ⟨.func, 1, 8, some [.nilfn]⟩) .e)))) (some ⟨(.int .u8), 1, 1, some [(.int .u8 (.n 0))]⟩) (.n (.n (.n (.n (.n .e (some ⟨(.int .u8), 1, 1, some [(.int .u8 (.n 0))]⟩) .e) (some ⟨(.map 3 69), 1, 8, some [.nilmap]⟩) .e) (some ⟨(.struct [(25, 0, 2), (4, 2, 1), (4, 3, 1), (4, 4, 1)] true), 5, 24, some [(.int .i64 (.n 0)), (.int .i64 (.n 0)), (.bool (.c false)), (.bool (.c false)), (.bool (.c false))]⟩) (.n .e (some ⟨(.slice 2 1), 1, 24, some [.nilsl]⟩) .e)) (some ⟨(.struct [(3, 0, 1), (3, 1, 1)] true), 2, 16, some [(.int .i64 (.n 0)), (.int .i64 (.n 0))]⟩) (.n (.n .e (some ⟨.func, 1, 8, some [.nilfn]⟩) .e) (some ⟨.func, 1, 8, some [.nilfn]⟩) (.n .e (some ⟨.func, 1, 8, some [.nilfn]⟩) .e))) (some ⟨(.struct [(9, 0, 1), (12, 1, 1)] false), 2, 24, some [(.str []), (.int .u64 (.n 0))]⟩) (.n (.n (.n .e (some ⟨(.struct [(2, 0, 1), (32, 1, 1)] true), 2, 16, some [(.int .i64 (.n 0)), (.int .u64 (.n 0))]⟩) .e) (some ⟨.func, 1, 8, some [.nilfn]⟩) (.n .e (some ⟨(.slice 31 4), 1, 24, some [.nilsl]⟩) .e)) (some ⟨.func, 1, 8, some [.nilfn]⟩) (.n (.n .e (some ⟨.func, 1, 8, some [.nilfn]⟩) .e) (some ⟨.func, 1, 8, some [.nilfn]⟩) (.n .e (some ⟨(.struct [(17, 0, 1), (17, 1, 1), (17, 2, 1), (9, 3, 1)] false), 4, 40, some [.nilp, .nilp, .nilp, (.str [])]⟩) .e)))))))
def GL : List (Nat × List SV) := [(0, [.int .i64 (.n 0), .int .i64 (.n 0), .int .i64 (.n (-9223372036854775808)), .int .i64 (.n 9223372036854775807), .int .i64 (.n 0), .int .i64 (.n 255), .int .i64 (.n 0), .int .i64 (.n 1)]), (1, [.int .i64 (.n 1), .int .i64 (.n 0)])]
theorem ty_eq : mkTy Tryd.prog keys = ty := by kernel_rfl
theorem mkTy_ok (P : Program) : ∀ (l : List Nat) t e, (mkTy P l).get t = some e → mkTE P t = some e
  | [], t, e, h => by simp [mkTy, Tb.get] at h
  | x :: l, t, e, h => by
    simp only [mkTy] at h
    split at h
    · rename_i y hy
      rcases Tb.get_put h with ⟨rfl, rfl⟩ | ⟨_, h⟩
      · exact hy
      · exact mkTy_ok P l t e h
    · exact mkTy_ok P l t e h
theorem tyOk : TyOk Tryd.prog ty := fun t e h => mkTy_ok Tryd.prog keys t e (by rw [ty_eq]; exact h)
/-- A function that is taken by its contract: its number, its parameters and results, what it answers. -/
abbrev Sp := Nat × Sig × (List Int → Option (List Int))
def spOf : List Sp → Nat → Option Sig
  | [], _ => none
  | e :: l, f => bif Nat.beq e.1 f then some e.2.1 else spOf l f
def fOf : List Sp → Nat → List Int → Option (List Int)
  | [], _, _ => none
  | e :: l, f, args => bif Nat.beq e.1 f then e.2.2 args else fOf l f args
def unAll (_ : Nat) : Bool := true
noncomputable def Cf (l : List Sp) (un : Nat → Bool) : Cfg := ⟨Tryd.prog, ty, GL, spOf l, un⟩
def Glob (w : World) : Prop := GOk (Cf [] unAll) w
/-- A contract that is kept. -/
def Ent (e : Sp) : Prop := ∀ args rs w, e.2.2 args = some rs → args.length = Sh.len e.2.1.ins → Glob w →
  CallSem Tryd.prog e.1 (vS e.2.1.ins args).toArray w fun v w' => v = tupW (vS e.2.1.outs rs) ∧ Below w.heap.size w w'
theorem con_of {l : List Sp} {un : Nat → Bool} (h : ∀ e ∈ l, Ent e) : Con (Cf l un) (fOf l) := by
  intro f sig hs args rs w hF hl hg
  have key : ∀ m : List Sp, (∀ e ∈ m, e ∈ l) → spOf m f = some sig → fOf m f args = some rs → ∃ e ∈ l, e.1 = f ∧ e.2.1 = sig ∧ e.2.2 args = some rs := by
    intro m
    induction m with
    | nil => intro _ h; cases h
    | cons e m ih =>
      intro hm h1 h2
      simp only [spOf, fOf] at h1 h2
      cases hb : Nat.beq e.1 f <;> rw [hb] at h1 h2 <;> simp only [cond_true, cond_false] at h1 h2
      · exact ih (fun x hx => hm x (.tail _ hx)) h1 h2
      · injection h1 with h1
        exact ⟨e, hm e (.head _), beq_nat hb, h1, h2⟩
  obtain ⟨e, he, rfl, rfl, hs2⟩ := key l (fun _ h => h) hs hF
  exact h e he args rs w hs2 hl hg
theorem mixed : Tryd.prog.follows .mixedOrders = true := by kernel_rfl
theorem ent_of {l : List Sp} (un : Nat → Bool) (h : ∀ e ∈ l, Ent e) {f fuel : Nat} {sig : Sig} {s : List Int → Option (List Int)} {t : T} (ht : sxFunc (Cf l un) fuel f sig = t)
    (hs : ∀ args rs, s args = some rs → args.length = Sh.len sig.ins → ∃ K, t.den (fOf l) K args = some (0, rs)) : Ent (f, sig, s) := by
  intro args rs w hsa hl hg
  obtain ⟨K, hK⟩ := hs args rs hsa hl
  rw [← ht] at hK
  exact func_ok (C := Cf l un) (f := f) tyOk mixed (con_of h) hg hl hK
/-- The same, the parameters being told apart. -/
theorem ent_run {l : List Sp} (un : Nat → Bool) (h : ∀ e ∈ l, Ent e) {f fuel : Nat} {sig : Sig} {args : List SV} {pc : List (B × Bool)} {t : T} {is rs : List Int} {K : Nat} {w : World} (ht : sxRun (Cf l un) fuel f sig args pc = t)
    (hl : is.length = Sh.len sig.ins) (hargs : SV.dens ⟨is, []⟩ args = vS sig.ins is) (hw : SV.wfs (Sh.len sig.ins) 0 args = true) (hpc : PcOk is pc) (hpw : ∀ p ∈ pc, p.1.wf (Sh.len sig.ins) = true) (hg : Glob w) (hK : t.den (fOf l) K is = some (0, rs)) :
    CallSem Tryd.prog f (vS sig.ins is).toArray w fun v w' => v = tupW (vS sig.outs rs) ∧ Below w.heap.size w w' := by
  rw [← ht] at hK
  exact run_ok (C := Cf l un) tyOk mixed (con_of h) hg hl hargs hw hpc hpw hK

/-! ### Add64 -/
def add64S : List Int → Option (List Int)
  | [x, y, c] => if 0 ≤ x ∧ 0 ≤ y ∧ 0 ≤ c ∧ c ≤ 1 then some [(x + y + c) % 18446744073709551616, (x + y + c) / 18446744073709551616] else none
  | _ => none
def p88 : Sp := (88, ⟨[U, U, U], [U, U]⟩, add64S)
theorem e88 : Ent p88 := by
  intro args rs w hs hl hg
  match args, hl with
  | [x, y, c], _ =>
    simp only [p88, add64S] at hs
    split at hs
    · rename_i hc
      cases hs
      have hf : Tryd.prog.funcs[88]? = some Tryd.f88 := Tryd.func88
      refine .inr ⟨_, ?_, rfl, .refl _ _⟩
      have := run_callFunc_extern (e := add64Entry) hf (by kernel_rfl) (by kernel_rfl) (by kernel_rfl) (by rfl) (vS [U, U, U] [x, y, c]).toArray w
      refine this.trans ?_
      show Result.andThen ((add64Entry #[.int .u64 x, .int .u64 y, .int .u64 c]).run Tryd.prog w) _ = _
      rw [run_add64 x y c hc.1 hc.2.1 hc.2.2.1 hc.2.2.2]
      rfl
    · cases hs

def inI (x : Int) : Prop := -9223372036854775808 ≤ x ∧ x ≤ 9223372036854775807
instance (x : Int) : Decidable (inI x) := by unfold inI; infer_instance

theorem ents_nil : ∀ e ∈ ([] : List Sp), Ent e := fun _ h => absurd h List.not_mem_nil
theorem ents_cons {e : Sp} {l : List Sp} (h : Ent e) (hl : ∀ x ∈ l, Ent x) : ∀ x ∈ e :: l, Ent x := fun x hx => (List.mem_cons.1 hx).elim (fun q => q ▸ h) (hl x)


end Go.SXR
set_option linter.unusedVariables false
set_option linter.unusedSimpArgs false
namespace Go.SXR
open Go Go.SX Go.Proofs Go.RowKit

/-! ### Full -/
def fullL (k : Int) : Int := if k = 1 then -9223372036854775808 else 0
def fullH (k : Int) : Int := if k = 1 then 9223372036854775807 else if k = 2 then 255 else if k = 3 then 1 else 0
def kindE (k : Int) : Int := if k = 1 ∨ k = 2 ∨ k = 3 then 0 else 2
def fullS : List Int → Option (List Int)
  | [k] => some [fullL k, fullH k, kindE k]
  | _ => none

def sg20 : Sig := ⟨[I], [(.agg [.int .i64, .int .i64]), I]⟩
def t20 : T := (.br (.or (.cmp .lt (.v 0) (.n 1)) (.cmp .lt (.n 3) (.v 0))) (.ret [(.n 0), (.n 0), (.n 2)]) (.br (.cmp .eq (.v 0) (.n 0)) (.ret [(.n 0), (.n 0), (.n 0)]) (.br (.cmp .eq (.v 0) (.n 1)) (.ret [(.n (-9223372036854775808)), (.n 9223372036854775807), (.n 0)]) (.br (.cmp .eq (.v 0) (.n 2)) (.ret [(.n 0), (.n 255), (.n 0)]) (.br (.cmp .eq (.v 0) (.n 3)) (.ret [(.n 0), (.n 1), (.n 0)]) (.fail 106))))))
theorem q20 : sxFunc (Cf [] unAll) 200 20 sg20 = t20 := by kernel_rfl
def p20 : Sp := (20, sg20, fullS)
theorem e20 : Ent p20 := ent_of unAll (l := []) ents_nil q20 fun args rs h hl => by
  match args, hl with
  | [k], _ =>
    simp only [fullS] at h; cases h
    refine ⟨0, ?_⟩
    simp only [t20, T.den, B.den, A.den, E.den, Cm.den, List.map, List.getD_cons_zero, List.getD_cons_succ, List.cons_append, List.nil_append, Bool.or_eq_true, Bool.and_eq_true, Bool.not_eq_true', decide_eq_true_eq, decide_eq_false_iff_not, beq_iff_eq]
    unfold fullL fullH kindE
    repeat' split
    all_goals first | rfl | (exfalso; omega) | (simp only [Option.some.injEq, Prod.mk.injEq, List.cons.injEq, and_true, true_and]; omega)

def sg21 : Sig := ⟨[I], [(.agg [.int .i64, .int .i64]), I]⟩
def t21 : T := (.br (.cmp .eq (.v 0) (.n 1)) (.ret [(.n (-9223372036854775808)), (.n 9223372036854775807), (.n 0)]) (.br (.cmp .eq (.v 0) (.n 2)) (.ret [(.n 0), (.n 255), (.n 0)]) (.br (.cmp .eq (.v 0) (.n 3)) (.ret [(.n 0), (.n 1), (.n 0)]) (.ret [(.n 0), (.n 0), (.n 2)]))))
theorem q21 : sxFunc (Cf [] unAll) 200 21 sg21 = t21 := by kernel_rfl
def p21 : Sp := (21, sg21, fullS)
theorem e21 : Ent p21 := ent_of unAll (l := []) ents_nil q21 fun args rs h hl => by
  match args, hl with
  | [k], _ =>
    simp only [fullS] at h; cases h
    refine ⟨0, ?_⟩
    simp only [t21, T.den, B.den, A.den, E.den, Cm.den, List.map, List.getD_cons_zero, List.getD_cons_succ, List.cons_append, List.nil_append, Bool.or_eq_true, Bool.and_eq_true, Bool.not_eq_true', decide_eq_true_eq, decide_eq_false_iff_not, beq_iff_eq]
    unfold fullL fullH kindE
    repeat' split
    all_goals first | rfl | (exfalso; omega) | (simp only [Option.some.injEq, Prod.mk.injEq, List.cons.injEq, and_true, true_and]; omega)

/-! ### Check -/
def okR (k l h : Int) : Prop := (k = 1 ∨ (k = 2 ∧ 0 ≤ l ∧ h ≤ 255) ∨ (k = 3 ∧ 0 ≤ l ∧ h ≤ 1)) ∧ l ≤ h
instance (k l h : Int) : Decidable (okR k l h) := by unfold okR; infer_instance
def checkE (k l h : Int) : Int := if okR k l h then 0 else 2
def checkS : List Int → Option (List Int)
  | [k, l, h] => if inI l ∧ inI h then some [checkE k l h] else none
  | _ => none

def sg17 : Sig := ⟨[I, (.agg [.int .i64, .int .i64])], [I]⟩
def t17 : T := (.br (.or (.cmp .lt (.v 0) (.n 1)) (.cmp .lt (.n 3) (.v 0))) (.br (.or (.or (.cmp .lt (.v 2) (.v 1)) (.cmp .lt (.v 1) (.n 0))) (.cmp .lt (.n 0) (.v 2))) (.ret [(.n 2)]) (.ret [(.n 2)])) (.br (.cmp .eq (.v 0) (.n 0)) (.br (.or (.or (.cmp .lt (.v 2) (.v 1)) (.cmp .lt (.v 1) (.n 0))) (.cmp .lt (.n 0) (.v 2))) (.ret [(.n 2)]) (.ret [(.n 0)])) (.br (.cmp .eq (.v 0) (.n 1)) (.br (.or (.or (.cmp .lt (.v 2) (.v 1)) (.cmp .lt (.v 1) (.n (-9223372036854775808)))) (.cmp .lt (.n 9223372036854775807) (.v 2))) (.ret [(.n 2)]) (.ret [(.n 0)])) (.br (.cmp .eq (.v 0) (.n 2)) (.br (.or (.or (.cmp .lt (.v 2) (.v 1)) (.cmp .lt (.v 1) (.n 0))) (.cmp .lt (.n 255) (.v 2))) (.ret [(.n 2)]) (.ret [(.n 0)])) (.br (.cmp .eq (.v 0) (.n 3)) (.br (.or (.or (.cmp .lt (.v 2) (.v 1)) (.cmp .lt (.v 1) (.n 0))) (.cmp .lt (.n 1) (.v 2))) (.ret [(.n 2)]) (.ret [(.n 0)])) (.fail 106))))))
theorem q17 : sxFunc (Cf [] unAll) 200 17 sg17 = t17 := by kernel_rfl
def p17 : Sp := (17, sg17, checkS)
theorem e17 : Ent p17 := ent_of unAll (l := []) ents_nil q17 fun args rs h hl => by
  match args, hl with
  | [k, l, u], _ =>
    simp only [checkS] at h
    split at h
    · rename_i hr
      cases h
      refine ⟨0, ?_⟩
      simp only [t17, T.den, B.den, A.den, E.den, Cm.den, List.map, List.getD_cons_zero, List.getD_cons_succ, List.cons_append, List.nil_append, Bool.or_eq_true, Bool.and_eq_true, Bool.not_eq_true', decide_eq_true_eq, decide_eq_false_iff_not, beq_iff_eq]
      unfold checkE okR
      unfold inI at hr
      repeat' split
      all_goals first | rfl | (exfalso; omega) | (simp only [Option.some.injEq, Prod.mk.injEq, List.cons.injEq, and_true, true_and]; omega)
    · cases h

def sg22 : Sig := ⟨[I, (.agg [.int .i64, .int .i64])], [I]⟩
def t22 : T := (.br (.cmp .eq (.v 0) (.n 1)) (.br (.or (.or (.cmp .lt (.v 2) (.v 1)) (.cmp .lt (.v 1) (.n (-9223372036854775808)))) (.cmp .lt (.n 9223372036854775807) (.v 2))) (.ret [(.n 2)]) (.ret [(.n 0)])) (.br (.cmp .eq (.v 0) (.n 2)) (.br (.or (.or (.cmp .lt (.v 2) (.v 1)) (.cmp .lt (.v 1) (.n 0))) (.cmp .lt (.n 255) (.v 2))) (.ret [(.n 2)]) (.ret [(.n 0)])) (.br (.cmp .eq (.v 0) (.n 3)) (.br (.or (.or (.cmp .lt (.v 2) (.v 1)) (.cmp .lt (.v 1) (.n 0))) (.cmp .lt (.n 1) (.v 2))) (.ret [(.n 2)]) (.ret [(.n 0)])) (.ret [(.n 2)]))))
theorem q22 : sxFunc (Cf [] unAll) 200 22 sg22 = t22 := by kernel_rfl
def p22 : Sp := (22, sg22, checkS)
theorem e22 : Ent p22 := ent_of unAll (l := []) ents_nil q22 fun args rs h hl => by
  match args, hl with
  | [k, l, u], _ =>
    simp only [checkS] at h
    split at h
    · rename_i hr
      cases h
      refine ⟨0, ?_⟩
      simp only [t22, T.den, B.den, A.den, E.den, Cm.den, List.map, List.getD_cons_zero, List.getD_cons_succ, List.cons_append, List.nil_append, Bool.or_eq_true, Bool.and_eq_true, Bool.not_eq_true', decide_eq_true_eq, decide_eq_false_iff_not, beq_iff_eq]
      unfold checkE okR
      unfold inI at hr
      repeat' split
      all_goals first | rfl | (exfalso; omega) | (simp only [Option.some.injEq, Prod.mk.injEq, List.cons.injEq, and_true, true_and]; omega)
    · cases h

/-! ### Join, Meet -/
def in4 (a b c d : Int) : Prop := inI a ∧ inI b ∧ inI c ∧ inI d
instance (a b c d : Int) : Decidable (in4 a b c d) := by unfold in4; infer_instance
def joinL (a b c d : Int) : Int := if b < a ∨ d < c then 0 else min a c
def joinH (a b c d : Int) : Int := if b < a ∨ d < c then 0 else max b d
def pairE (a b c d : Int) : Int := if b < a ∨ d < c then 2 else 0
def joinS : List Int → Option (List Int)
  | [a, b, c, d] => if in4 a b c d then some [joinL a b c d, joinH a b c d, pairE a b c d] else none
  | _ => none
def meetB (a b c d : Int) : Int := if b < a ∨ d < c ∨ min b d < max a c then 0 else 1
def meetL (a b c d : Int) : Int := if b < a ∨ d < c ∨ min b d < max a c then 0 else max a c
def meetH (a b c d : Int) : Int := if b < a ∨ d < c ∨ min b d < max a c then 0 else min b d
def meetS : List Int → Option (List Int)
  | [a, b, c, d] => if in4 a b c d then some [meetL a b c d, meetH a b c d, meetB a b c d, pairE a b c d] else none
  | _ => none

def sg19 : Sig := ⟨[(.agg [.int .i64, .int .i64]), (.agg [.int .i64, .int .i64])], [(.agg [.int .i64, .int .i64]), I]⟩
def t19 : T := (.br (.or (.or (.cmp .lt (.v 1) (.v 0)) (.cmp .lt (.v 0) (.n (-9223372036854775808)))) (.cmp .lt (.n 9223372036854775807) (.v 1))) (.ret [(.n 0), (.n 0), (.n 2)]) (.br (.or (.or (.cmp .lt (.v 3) (.v 2)) (.cmp .lt (.v 2) (.n (-9223372036854775808)))) (.cmp .lt (.n 9223372036854775807) (.v 3))) (.ret [(.n 0), (.n 0), (.n 2)]) (.lt (.mn (.v 0) (.v 1)) (.lt (.mx (.v 0) (.v 1)) (.lt (.mn (.v 4) (.v 2)) (.lt (.mx (.v 5) (.v 2)) (.lt (.mn (.v 6) (.v 3)) (.lt (.mx (.v 7) (.v 3)) (.ret [(.v 8), (.v 9), (.n 0)])))))))))
theorem q19 : sxFunc (Cf [] unAll) 200 19 sg19 = t19 := by kernel_rfl
def p19 : Sp := (19, sg19, joinS)
theorem e19 : Ent p19 := ent_of unAll (l := []) ents_nil q19 fun args rs h hl => by
  match args, hl with
  | [a, b, c, d], _ =>
    simp only [joinS] at h
    split at h
    · rename_i hr
      cases h
      refine ⟨0, ?_⟩
      simp only [t19, T.den, B.den, A.den, E.den, Cm.den, List.map, List.getD_cons_zero, List.getD_cons_succ, List.cons_append, List.nil_append, Bool.or_eq_true, Bool.and_eq_true, Bool.not_eq_true', decide_eq_true_eq, decide_eq_false_iff_not, beq_iff_eq]
      unfold joinL joinH pairE
      unfold in4 inI at hr
      repeat' split
      all_goals first | rfl | (exfalso; omega) | (simp only [Option.some.injEq, Prod.mk.injEq, List.cons.injEq, and_true, true_and]; omega)
    · cases h

def sg23 : Sig := ⟨[(.agg [.int .i64, .int .i64]), (.agg [.int .i64, .int .i64])], [(.agg [.int .i64, .int .i64]), I]⟩
def t23 : T := (.br (.or (.cmp .lt (.v 1) (.v 0)) (.cmp .lt (.v 3) (.v 2))) (.ret [(.n 0), (.n 0), (.n 2)]) (.lt (.mn (.v 0) (.v 2)) (.lt (.mx (.v 1) (.v 3)) (.ret [(.v 4), (.v 5), (.n 0)]))))
theorem q23 : sxFunc (Cf [] unAll) 200 23 sg23 = t23 := by kernel_rfl
def p23 : Sp := (23, sg23, joinS)
theorem e23 : Ent p23 := ent_of unAll (l := []) ents_nil q23 fun args rs h hl => by
  match args, hl with
  | [a, b, c, d], _ =>
    simp only [joinS] at h
    split at h
    · rename_i hr
      cases h
      refine ⟨0, ?_⟩
      simp only [t23, T.den, B.den, A.den, E.den, Cm.den, List.map, List.getD_cons_zero, List.getD_cons_succ, List.cons_append, List.nil_append, Bool.or_eq_true, Bool.and_eq_true, Bool.not_eq_true', decide_eq_true_eq, decide_eq_false_iff_not, beq_iff_eq]
      unfold joinL joinH pairE
      unfold in4 inI at hr
      repeat' split
      all_goals first | rfl | (exfalso; omega) | (simp only [Option.some.injEq, Prod.mk.injEq, List.cons.injEq, and_true, true_and]; omega)
    · cases h

def sg24 : Sig := ⟨[(.agg [.int .i64, .int .i64]), (.agg [.int .i64, .int .i64])], [(.agg [.int .i64, .int .i64]), L, I]⟩
def t24 : T := (.br (.or (.or (.cmp .lt (.v 1) (.v 0)) (.cmp .lt (.v 0) (.n (-9223372036854775808)))) (.cmp .lt (.n 9223372036854775807) (.v 1))) (.ret [(.n 0), (.n 0), (.n 0), (.n 2)]) (.br (.or (.or (.cmp .lt (.v 3) (.v 2)) (.cmp .lt (.v 2) (.n (-9223372036854775808)))) (.cmp .lt (.n 9223372036854775807) (.v 3))) (.ret [(.n 0), (.n 0), (.n 0), (.n 2)]) (.lt (.mx (.v 0) (.v 2)) (.lt (.mn (.v 1) (.v 3)) (.br (.cmp .lt (.v 5) (.v 4)) (.ret [(.n 0), (.n 0), (.n 0), (.n 0)]) (.ret [(.v 4), (.v 5), (.n 1), (.n 0)]))))))
theorem q24 : sxFunc (Cf [] unAll) 200 24 sg24 = t24 := by kernel_rfl
def p24 : Sp := (24, sg24, meetS)
theorem e24 : Ent p24 := ent_of unAll (l := []) ents_nil q24 fun args rs h hl => by
  match args, hl with
  | [a, b, c, d], _ =>
    simp only [meetS] at h
    split at h
    · rename_i hr
      cases h
      refine ⟨0, ?_⟩
      simp only [t24, T.den, B.den, A.den, E.den, Cm.den, List.map, List.getD_cons_zero, List.getD_cons_succ, List.cons_append, List.nil_append, Bool.or_eq_true, Bool.and_eq_true, Bool.not_eq_true', decide_eq_true_eq, decide_eq_false_iff_not, beq_iff_eq]
      unfold meetL meetH meetB pairE
      unfold in4 inI at hr
      repeat' split
      all_goals first | rfl | (exfalso; omega) | (simp only [Option.some.injEq, Prod.mk.injEq, List.cons.injEq, and_true, true_and]; omega)
    · cases h

def sg25 : Sig := ⟨[(.agg [.int .i64, .int .i64]), (.agg [.int .i64, .int .i64])], [(.agg [.int .i64, .int .i64]), L, I]⟩
def t25 : T := (.br (.or (.cmp .lt (.v 1) (.v 0)) (.cmp .lt (.v 3) (.v 2))) (.ret [(.n 0), (.n 0), (.n 0), (.n 2)]) (.lt (.mx (.v 0) (.v 2)) (.lt (.mn (.v 1) (.v 3)) (.br (.cmp .lt (.v 5) (.v 4)) (.ret [(.n 0), (.n 0), (.n 0), (.n 0)]) (.ret [(.v 4), (.v 5), (.n 1), (.n 0)])))))
theorem q25 : sxFunc (Cf [] unAll) 200 25 sg25 = t25 := by kernel_rfl
def p25 : Sp := (25, sg25, meetS)
theorem e25 : Ent p25 := ent_of unAll (l := []) ents_nil q25 fun args rs h hl => by
  match args, hl with
  | [a, b, c, d], _ =>
    simp only [meetS] at h
    split at h
    · rename_i hr
      cases h
      refine ⟨0, ?_⟩
      simp only [t25, T.den, B.den, A.den, E.den, Cm.den, List.map, List.getD_cons_zero, List.getD_cons_succ, List.cons_append, List.nil_append, Bool.or_eq_true, Bool.and_eq_true, Bool.not_eq_true', decide_eq_true_eq, decide_eq_false_iff_not, beq_iff_eq]
      unfold meetL meetH meetB pairE
      unfold in4 inI at hr
      repeat' split
      all_goals first | rfl | (exfalso; omega) | (simp only [Option.some.injEq, Prod.mk.injEq, List.cons.injEq, and_true, true_and]; omega)
    · cases h

end Go.SXR

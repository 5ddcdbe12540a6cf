/- The symbolic executor SY, its soundness, part 33: a round's end is a head again. -/
import Derived.Test.YtdfogmblgephdaaSyS32
set_option linter.unusedVariables false
set_option linter.unusedSimpArgs false
namespace Go.SY
open Go Go.RowKit

variable {F : Nat → List Dt → Post → Prop} {Q : Post} {P : Program}
variable {C : Cfg} {ty : Ty} {G : Nat → Prop} {fz0 : Fz} {w0 w w' wB : World} {ρ ρ' ρ1 ρ1' ρN ρB : Env} {st st' stB : St} {d : Bd} {tm tm' : Tm} {a : Act} {bm : Tb Nat} {β : Bt}

theorem sosBeq_eq : ∀ {a b : List SO}, sosBeq a b = true → a = b
  | [], [], _ => rfl
  | [], _ :: _, h => by cases h
  | _ :: _, [], h => by cases h
  | x :: a, y :: b, h => by
    simp only [sosBeq, Bool.and_eq_true] at h
    have hxy : x = y := by
      rcases SO.beq_eq h.1.1 with hx | hx
      · rcases SO.beq_eq h.1.2 with hy | hy
        · rw [hx, hy]
        · exact hy.symm
      · exact hx
    rw [hxy, sosBeq_eq h.2]
theorem kindsOk_get : ∀ {a b : List SO}, kindsOk a b = true → ∀ (i : Nat) (x : SO), a[i]? = some x → ∃ y, b[i]? = some y ∧ kindOk x y = true
  | [], [], _, i, x, h => by simp at h
  | [], _ :: _, h, _, _, _ => by cases h
  | _ :: _, [], h, _, _, _ => by cases h
  | y :: a, z :: b, h, 0, x, hx => by
    simp only [kindsOk, Bool.and_eq_true] at h
    simp only [List.getElem?_cons_zero, Option.some.injEq] at hx
    subst hx
    exact ⟨z, rfl, h.1⟩
  | y :: a, z :: b, h, i + 1, x, hx => by
    simp only [kindsOk, Bool.and_eq_true] at h
    simp only [List.getElem?_cons_succ] at hx ⊢
    exact kindsOk_get h.2 i x hx
/-- Entries of one kind lie in one place. -/
theorem kind_foot {i : Nat} {x y : SO} (h : kindOk x y = true) {k : Nat} (hk : foot ρ i x = some k) : foot ρ i y = some k := by
  cases x <;> cases y <;> simp only [kindOk] at h <;> first | cases h; done | exact hk | cases hk
end Go.SY
